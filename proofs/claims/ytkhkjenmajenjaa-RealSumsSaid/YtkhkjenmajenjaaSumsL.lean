/- What is proved: the walk of RealSums itself. -/
import Derived.Test.YtkhkjenmajenjaaSumsW
namespace Go.Proofs.Ytkhkjenmajenjaa
open Go.RowKit
set_option linter.unusedVariables false
theorem sumOut_nil : sumOut [] = 0 := by decide +kernel
set_option maxHeartbeats 8000000 in
theorem realSums_any (A : Option Addr) (n c : Nat) (l : List Int) (x : Int) (w : World) (hR : Reads w w.heap.size 1 A n (u64s l)) (hc : n ≤ c) (hn : c * 8 ≤ 140737488351232) (hw : Words l) (hx : Word x) :
    Calls Try.prog 7 #[.slice A n c, .int .u64 x] w fun e w' => e = .returned (.bool true) ∧ Below w.heap.size w w' := by
  have hfb := frombits
  have htb := tobits
  go_enter Try.func7, Try.ntmps7
  go_wp2_with fail
  refine (wakes_any _).mono ?_
  rintro e w1 ⟨rfl, hb1⟩
  go_wp2_with fail
  have hR1 := (hR.below hb1).more hb1.size
  refine (few_any _ _ _ l _ hR1 hc (by omega)).mono ?_
  rintro e w2 ⟨A', c', ⟨rfl, hR2⟩, hb2⟩
  have hbb := hb1.trans (hb2.mono hb1.size)
  clear hR1 hR hb1 hb2
  have hw2 : Words (l.take 40) := fun x hx => hw x (List.mem_of_mem_take hx)
  clear hw
  generalize l.take 40 = l2 at *
  have hm : min n 40 ≤ 40 := Nat.min_le_right _ _
  generalize min n 40 = m at *
  go_wp2_with fail
  go_loopw [5, 17] (fun s i wr => ∃ k : Nat, k ≤ m ∧ i = .int .i64 k ∧ ∃ r, s = .float .f64 r ∧ Fl (fsum (l2.take k)) r ∧ Below w2.heap.size w2 wr)
    (fun _ i _ => m - (intOf i).toNat)
  case atStart => exact ⟨0, Nat.zero_le _, rfl, 0, rfl, fl_zero, Below.refl _ _⟩
  case round =>
    obtain ⟨k, hk, rfl, r, rfl, hf, hbw⟩ := hrel
    by_cases hlt : k < m
    · obtain ⟨ad, u, hA, hbl, hu, hcell⟩ := (hR2.below hbw).at_ hlt
      obtain ⟨v, hv, rfl⟩ := u64s_get hu
      obtain ⟨r2, w3, hadd, hw3, hf2⟩ := add_run' r v.toNat wr
      have HF := Lib.hid (fsum_take l2 k v hv)
      have hst := fl_step hf hf2
      have hb3 := below_draw hbw hw3
      clear hf hu hv hR2 hf2 hw3
      subst hA
      go_wp2_with fail
      go_roundw
      case rel => exact ⟨k + 1, by omega, by go_num, r2, rfl, by rw [HF.out]; exact hst, hb3⟩
      case measure => simp [intOf]; omega
    · have hln : l2.length = m := by have := hR2.1; rw [length_u64s] at this; omega
      rw [take_all hln hlt hk] at hf
      have hbe := hbb.trans (hbw.mono hbb.size)
      have hR3 := (hR2.below hbw).more hbw.size
      clear hR2 hbb hbw hln
      have hcs := sum_cases l2 r hf
      have hB := sum_both l2 hw2
      have hN := sum_hasNan l2 hw2
      clear hf
      go_wp2_with fail
      clear hlt hk
      refine (sum_any _ _ _ l2 _ hR3 (by omega) hw2).mono ?_
      rintro e w3 ⟨rfl, hb3⟩
      have hR4 := (hR3.below hb3).more hb3.size
      have hbe := hbe.trans (hb3.mono hbe.size)
      clear hR3 hb3
      have key : ((FloatKind.f64.format.order r r != some .eq) = true ∧ (sumOut l2 == 9221120237041090560) = true ∧ (sumOut l2 != 9221120237041090560) = false) ∨
          ((FloatKind.f64.format.order r r != some .eq) = false ∧ (sumOut l2 == 9221120237041090560) = false ∧ (sumOut l2 != (r : Int)) = false ∧ hasNan l2 = false ∧ (hasIt l2 9218868437227405312 = true → hasIt l2 18442240474082181120 = false)) := by
        rcases hcs with ⟨s0, s1, s2⟩ | ⟨s1, s0, s2, s3⟩
        · exact .inl ⟨s1, by rw [s2]; rfl, by rw [s2]; rfl⟩
        · refine .inr ⟨s1, s3, by rw [s2]; simp, ?_, fun h1 => ?_⟩
          · cases e : hasNan l2 with
            | false => rfl
            | true => rw [hN e] at s0; cases s0
          · cases e : hasIt l2 18442240474082181120 with
            | false => rfl
            | true => rw [hB h1 e] at s0; cases s0
      clear hcs hB hN
      have al : ((cls x == 4) = true ∧ (cls x != 4) = false ∧ (sumOut [x] != 9221120237041090560) = false) ∨ ((cls x == 4) = false ∧ (cls x != 4) = true ∧ tst 3 (sumOut [x]) x = true) := by
        by_cases h4 : cls x = 4
        · exact .inl ⟨beq_iff_eq.2 h4, by simp [h4], by rw [alone_nan x hx h4]; rfl⟩
        · exact .inr ⟨beq_eq_false_iff_ne.2 h4, by simp [h4], alone_num x hx h4⟩
      have hx1 : Words [x] := fun y hy => by simp at hy; subst hy; exact hx
      have s0 : (sumOut [] == 0) = true := by rw [sumOut_nil]; rfl
      rcases key with ⟨s1, s2, s3⟩ | ⟨s1, s2, s3, s4, s5⟩
      · rcases al with ⟨a1, a2, a3⟩ | ⟨a1, a2, a3⟩
        all_goals
          go_wp2_with (first
            | (go_at_call 25; refine (fisnan_any _ _).mono ?_; rintro e w' ⟨rfl, rfl⟩)
            | (go_at_call 27; refine (containsFunc_any _ _ _ l2 _ hR4 (by omega) hw2).mono ?_; rintro e w' ⟨rfl, rfl⟩)
            | (go_at_call 29; refine (contains_any _ _ _ l2 _ _ hR4 (by omega)).mono ?_; rintro e w' ⟨rfl, rfl⟩))
          all_goals
            refine (sum_any _ _ _ [x] _ (reads_lits w3 (u64s [x]) 22 _ 1 rfl (by simp)) (by omega) hx1).mono ?_
            rintro e w4 ⟨rfl, hb4⟩
            have hbe := (hbe.alloc hbe.size (Obj.cells #[Value.int IntKind.u64 x] 22)).trans (hb4.mono (by have := hbe.size; simp; omega))
            clear hb4 hR4
            go_wp2_with (first
              | (go_at_call 10; refine (class_any _ hx _).mono ?_; rintro e w' ⟨rfl, rfl⟩)
              | (go_at_call 9; refine (test_any _ _ _ (by decide) (by decide) _).mono ?_; rintro e w5 ⟨rfl, hb5⟩; have hbe := hbe.trans (hb5.mono hbe.size); clear hb5)
              | (go_at_call 24; refine (sum_any none 0 0 [] _ Reads.none_ (by omega) (fun _ h => by cases h)).mono ?_; rintro e w6 ⟨rfl, hb6⟩; have hbe := hbe.trans (hb6.mono hbe.size); clear hb6))
            all_goals
              go_ret
              exact ⟨ret_bool (by simp [*]), hbe⟩
      · have hi : (hasIt l2 9218868437227405312 = true ∧ hasIt l2 18442240474082181120 = false) ∨ hasIt l2 9218868437227405312 = false := by
          cases e : hasIt l2 9218868437227405312 with
          | false => exact .inr rfl
          | true => exact .inl ⟨rfl, s5 e⟩
        clear s5
        rcases hi with ⟨i1, i2⟩ | i1 <;> rcases al with ⟨a1, a2, a3⟩ | ⟨a1, a2, a3⟩
        all_goals
          go_wp2_with (first
            | (go_at_call 25; refine (fisnan_any _ _).mono ?_; rintro e w' ⟨rfl, rfl⟩)
            | (go_at_call 27; refine (containsFunc_any _ _ _ l2 _ hR4 (by omega) hw2).mono ?_; rintro e w' ⟨rfl, rfl⟩)
            | (go_at_call 29; refine (contains_any _ _ _ l2 _ _ hR4 (by omega)).mono ?_; rintro e w' ⟨rfl, rfl⟩))
          all_goals
            refine (sum_any _ _ _ [x] _ (reads_lits w3 (u64s [x]) 22 _ 1 rfl (by simp)) (by omega) hx1).mono ?_
            rintro e w4 ⟨rfl, hb4⟩
            have hbe := (hbe.alloc hbe.size (Obj.cells #[Value.int IntKind.u64 x] 22)).trans (hb4.mono (by have := hbe.size; simp; omega))
            clear hb4 hR4
            go_wp2_with (first
              | (go_at_call 10; refine (class_any _ hx _).mono ?_; rintro e w' ⟨rfl, rfl⟩)
              | (go_at_call 9; refine (test_any _ _ _ (by decide) (by decide) _).mono ?_; rintro e w5 ⟨rfl, hb5⟩; have hbe := hbe.trans (hb5.mono hbe.size); clear hb5)
              | (go_at_call 24; refine (sum_any none 0 0 [] _ Reads.none_ (by omega) (fun _ h => by cases h)).mono ?_; rintro e w6 ⟨rfl, hb6⟩; have hbe := hbe.trans (hb6.mono hbe.size); clear hb6))
            all_goals
              go_ret
              exact ⟨ret_bool (by simp [*]), hbe⟩
theorem realSums_walk (A : Option Addr) (n c : Nat) (l : List Int) (hc : n ≤ c) (hn : c * 8 ≤ 140737488351232) (hw : ∀ x ∈ l, (Lit.int .u64 x).wf = true) (x : Int) (wx : (Lit.int .u64 x).wf = true) (w : World) (hR : Reads w w.heap.size 1 A n (l.map (Value.int .u64))) :
    Calls Try.prog 7 #[.slice A n c, .int .u64 x] w fun e w' => e = .returned (.bool true) ∧ Below w.heap.size w w' :=
  realSums_any A n c l x w hR hc hn (fun x hx => word_of_wf (hw x hx)) (word_of_wf wx)
end Go.Proofs.Ytkhkjenmajenjaa
