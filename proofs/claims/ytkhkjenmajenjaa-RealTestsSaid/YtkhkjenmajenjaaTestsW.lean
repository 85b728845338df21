/- What is proved: the walk of RealTests: for every row of words and every kind the law returns true. -/
import Derived.Test.YtkhkjenmajenjaaRef
namespace Go.Proofs.Ytkhkjenmajenjaa
open Go.RowKit
set_option linter.unusedVariables false
def kk (k : Int) (j : Nat) : Int := if j = 0 then k else (j : Int) - 1
theorem idx5 (k : Int) (j : Nat) (h : j < 5) (w : World) : (Instr.index 35 (.agg #[.int .i64 k, .int .i64 0, .int .i64 1, .int .i64 2, .int .i64 3]) (.int .i64 (j : Int))).run Try.prog w = .ok (.int .i64 (kk k j)) w := by
  rcases (show j = 0 ∨ j = 1 ∨ j = 2 ∨ j = 3 ∨ j = 4 from by omega) with rfl | rfl | rfl | rfl | rfl
  all_goals (kernel_rfl)
theorem kk_bd (k : Int) (j : Nat) (h : j < 5) (h0 : -9223372036854775808 ≤ k) (h1 : k ≤ 9223372036854775807) : -9223372036854775808 ≤ kk k j ∧ kk k j ≤ 9223372036854775807 := by
  unfold kk; split <;> omega
set_option maxHeartbeats 8000000 in
theorem realTests_any (A : Option Addr) (n c : Nat) (l : List Int) (kind : Int) (w : World) (hR : Reads w w.heap.size 1 A n (u64s l)) (hc : n ≤ c) (hn : c * 8 ≤ 140737488351232) (hw : Words l) (k0 : -9223372036854775808 ≤ kind) (k1 : kind ≤ 9223372036854775807) :
    Calls Try.prog 5 #[.slice A n c, .int .i64 kind] w fun e w' => e = .returned (.bool true) ∧ Below w.heap.size w w' := by
  go_enter Try.func5, Try.ntmps5
  go_wp2_with fail
  refine (wakes_any _).mono ?_
  rintro e w1 ⟨rfl, hb1⟩
  go_wp2_with fail
  have hR1 := (hR.below hb1).more hb1.size
  refine (few_any _ _ _ l _ hR1 hc (by omega)).mono ?_
  rintro e w2 ⟨A', c', ⟨rfl, hR2⟩, hb2⟩
  have hbb := hb1.trans (hb2.mono hb1.size)
  clear hR1 hR hb1 hb2
  have hw2 : Words (l.take 40) := fun x hx => hw x (List.mem_of_mem_take hx)
  clear hw
  generalize l.take 40 = l2 at *
  have hm : min n 40 ≤ 40 := Nat.min_le_right _ _
  generalize min n 40 = m at *
  go_wp2_with fail
  go_loopw [22] (fun i wr => ∃ k : Nat, k ≤ m ∧ i = .int .i64 k ∧ Below w2.heap.size w2 wr)
    (fun i _ => m - (intOf i).toNat)
  case atStart => exact ⟨0, Nat.zero_le _, rfl, Below.refl _ _⟩
  case round =>
    obtain ⟨k, hk, rfl, hbw⟩ := hrel
    by_cases hlt : k < m
    · obtain ⟨ad, u, hA, hbl, hu, hcell⟩ := (hR2.below hbw).at_ hlt
      obtain ⟨v, hv, rfl⟩ := u64s_get hu
      have hvw := words_get hw2 hv
      clear hu hv
      subst hA
      go_wp2_with fail
      obtain ⟨wo, rfl⟩ : ∃ wo : World, wo = wr := ⟨_, rfl⟩
      go_hide hQ
      go_loopw [28] (fun i wr => ∃ k2 : Nat, k2 ≤ m ∧ i = .int .i64 k2 ∧ Below w2.heap.size w2 wr)
        (fun i _ => m - (intOf i).toNat)
      case atStart => exact ⟨0, Nat.zero_le _, rfl, hbw⟩
      case round =>
        obtain ⟨k2, hk2, rfl, hbw2⟩ := hrel
        by_cases hlt2 : k2 < m
        · obtain ⟨ad2, u2, hA2, hbl2, hu2, hcell2⟩ := (hR2.below hbw2).at_ hlt2
          obtain ⟨v2, hv2, rfl⟩ := u64s_get hu2
          have hvw2 := words_get hw2 hv2
          simp only [Option.some.injEq] at hA2
          subst hA2
          clear hu2 hv2 hcell
          go_wp2_with (first
            | (go_at_call 11; refine (compare_any _ _ (by assumption) (by assumption) _).mono ?_; rintro e w' ⟨rfl, rfl⟩)
            | (go_at_call 14; refine (rcompare_any _ _ (by assumption) (by assumption) _).mono ?_; rintro e w' ⟨rfl, rfl⟩))
          obtain ⟨wo2, rfl⟩ : ∃ wo2 : World, wo2 = wr := ⟨_, rfl⟩
          go_hide hQ2
          go_loopw [41] (fun i wr => ∃ k3 : Nat, k3 ≤ 5 ∧ i = .int .i64 k3 ∧ Below w2.heap.size w2 wr)
            (fun i _ => 5 - (intOf i).toNat)
          case atStart => exact ⟨0, Nat.zero_le _, rfl, hbw2⟩
          case round =>
            obtain ⟨k3, hk3, rfl, hbw3⟩ := hrel
            clear hcell2
            by_cases hlt3 : k3 < 5
            · have hix := idx5 kind k3 hlt3
              obtain ⟨b0, b1⟩ := kk_bd kind k3 hlt3 k0 k1
              go_wp2_with (first
                | (go_at_call 9; refine (test_any _ _ _ (by assumption) (by assumption) _).mono ?_; rintro e w3 ⟨rfl, hb3⟩; have hbw4 := hbw3.trans (hb3.mono hbw3.size); clear hb3)
                | (go_at_call 15; refine (rtest_any _ _ _ (by assumption) (by assumption) _).mono ?_; rintro e w' ⟨rfl, rfl⟩))
              go_roundw
              case rel => exact ⟨k3 + 1, by omega, by go_num, hbw4⟩
              case measure => simp [intOf]; omega
            · go_wp2_with fail
              subst hQ2
              go_wp2_with fail
              go_roundw
              case rel => exact ⟨k2 + 1, by omega, by go_num, hbw3⟩
              case measure => simp [intOf]; omega
        · go_wp2_with fail
          subst hQ
          go_wp2_with fail
          go_roundw
          case rel => exact ⟨k + 1, by omega, by go_num, hbw2⟩
          case measure => simp [intOf]; omega
    · have hR3 := (hR2.below hbw).more hbw.size
      have hbe := hbb.trans (hbw.mono hbb.size)
      clear hR2 hbb hbw
      go_wp2_with fail
      clear hlt hk
      refine (ends_any _ _ _ l2 _ hR3 (by omega) hw2).mono ?_
      rintro e w3 ⟨rfl, hb3⟩
      have hR4 := (hR3.below hb3).more hb3.size
      have hbe := hbe.trans (hb3.mono hbe.size)
      clear hR3 hb3
      have hix : ∃ x y z, efold l2 = (x, y, z) := ⟨_, _, _, rfl⟩
      obtain ⟨x, y, z, hxyz⟩ := hix
      rw [hxyz]
      cases z with
      | false =>
        go_wp2_with fail
        refine (rends_any _ _ _ l2 _ hR4 (by omega) hw2).mono ?_
        rintro e w' ⟨i, j, ⟨rfl, hi⟩, rfl⟩
        rw [hxyz] at hi
        rcases hi with ⟨_, rfl, rfl⟩ | ⟨hi, _⟩
        · clear hxyz
          go_wp2_with fail
          go_ret
          exact ⟨rfl, hbe⟩
        · cases hi
      | true =>
        go_wp2_with fail
        refine (rends_any _ _ _ l2 _ hR4 (by omega) hw2).mono ?_
        rintro e w' ⟨i, j, ⟨rfl, hi⟩, rfl⟩
        rw [hxyz] at hi
        rcases hi with ⟨hi, _⟩ | ⟨_, p, q, rfl, rfl, hp, hq⟩
        · cases hi
        · have hln : l2.length = m := by have := hR4.1; rw [length_u64s] at this; omega
          have hp' := (List.getElem?_eq_some_iff.1 hp).1
          have hq' := (List.getElem?_eq_some_iff.1 hq).1
          have hpm : p < m := by omega
          have hqm : q < m := by omega
          obtain ⟨ad, u, hA, _, hu, hcell⟩ := hR4.at_ hpm
          obtain ⟨ad2, u2, hA2, _, hu2, hcell2⟩ := hR4.at_ hqm
          obtain ⟨v, hv, rfl⟩ := u64s_get hu
          obtain ⟨v2, hv2, rfl⟩ := u64s_get hu2
          rw [hp] at hv; rw [hq] at hv2
          simp only [Option.some.injEq] at hv hv2
          rw [hA] at hA2
          simp only [Option.some.injEq] at hA2
          subst hA hA2 hv hv2
          clear hp hq hu hu2 hln hxyz
          have hp0 : decide ((p : Int) < 0) = false := decide_eq_false (by omega)
          go_wp2_with fail
          go_ret
          exact ⟨ret_bool (by simp), hbe⟩
theorem realTests_walk (A : Option Addr) (n c : Nat) (l : List Int) (hc : n ≤ c) (hn : c * 8 ≤ 140737488351232) (hw : ∀ x ∈ l, (Lit.int .u64 x).wf = true) (kind : Int) (wk : (Lit.int .i64 kind).wf = true) (w : World) (hR : Reads w w.heap.size 1 A n (l.map (Value.int .u64))) :
    Calls Try.prog 5 #[.slice A n c, .int .i64 kind] w fun e w' => e = .returned (.bool true) ∧ Below w.heap.size w w' := by
  simp [Lit.wf, IntKind.min, IntKind.max, IntKind.signed, IntKind.bits] at wk
  exact realTests_any A n c l kind w hR hc hn (fun x hx => word_of_wf (hw x hx)) (by omega) (by omega)
end Go.Proofs.Ytkhkjenmajenjaa
