/- What is proved: wakes returns true. -/
import Derived.Test.YtkhkjenmajenjaaWalkE
namespace Go.Proofs.Ytkhkjenmajenjaa
open Go.RowKit
set_option linter.unusedVariables false
theorem reads_lit (w : World) (l : List Int) (t : TypeId) (B n : Nat) (hn : n = l.length) (hB : w.heap.size + 1 ≤ B) : Reads (w.alloc (.cells (u64s l).toArray t)) B 1 (some ⟨w.heap.size, 0, none⟩) n (u64s l) :=
  ⟨by rw [length_u64s]; omega, fun _ => ⟨_, rfl, by show w.heap.size < B; omega, fun j u hu => by
    have e : (⟨w.heap.size, 0, none⟩ : Addr).add j = ⟨w.heap.size, j, none⟩ := by
      unfold Addr.add; split
      · subst_vars; rfl
      · simp
    rw [e]
    have h := cell_of_row (w.alloc (.cells (u64s l).toArray t)) w.heap.size j (u64s l).toArray t (0, 0) (heap_alloc_new w _)
    rw [h]; simpa using hu⟩⟩
theorem wake_next1 : nxt 9223372036854775808 = 1 ∧ nxe 9223372036854775808 = 0 := by decide +kernel
theorem wake_next2 : nxe 9218868437227405312 = 4 := by decide +kernel
theorem wake_ends : efold [4607182418800017408, 9221120237041090560, 9223372036854775808] = (9223372036854775808, 4607182418800017408, true) := by decide +kernel
theorem wake_t1 : tst 3 0 9223372036854775808 = true := by decide +kernel
theorem wake_t2 : tst 3 9221120237041090560 9221120237041090560 = false := by decide +kernel
theorem wake_c : kc 0 9223372036854775808 = 1 := by decide +kernel
theorem wake_s : sumOut [4607182418800017408, 4607182418800017408] = 4611686018427387904 := by decide +kernel
theorem wd (a : Nat) (h : a ≤ 18446744073709551615) : Word a := ⟨by omega, by omega⟩
set_option maxHeartbeats 1000000 in
theorem wakes_any (w : World) : Calls Try.prog 8 #[] w fun e w' => e = .returned (.bool true) ∧ Below w.heap.size w w' := by
  go_enter Try.func8, Try.ntmps8
  go_wp2_with fail
  refine (next_any _ ⟨by decide, by decide⟩ _).mono ?_
  rw [wake_next1.1, wake_next1.2]
  rintro e w' ⟨rfl, rfl⟩
  go_wp2_with fail
  refine (next_any _ ⟨by decide, by decide⟩ _).mono ?_
  rw [wake_next2]
  rintro e w' ⟨rfl, rfl⟩
  go_wp2_with fail
  refine (ends_any _ _ _ [4607182418800017408, 9221120237041090560, 9223372036854775808] _ (reads_lit _ _ _ _ _ rfl (by simp)) (by decide) (by unfold Words; simp only [List.mem_cons, List.not_mem_nil, or_false]; rintro x (rfl | rfl | rfl) <;> exact ⟨by decide, by decide⟩)).mono ?_
  rw [wake_ends]
  rintro e w1 ⟨rfl, hb1⟩
  go_wp2_with fail
  refine (test_any _ _ _ (by decide) (by decide) _).mono ?_
  rw [wake_t1]
  rintro e w2 ⟨rfl, hb2⟩
  have hc1 := ((Below.refl w.heap.size w).alloc (Nat.le_refl _) _).trans (hb1.mono (by simp))
  have hc2 := hc1.trans (hb2.mono hc1.size)
  go_wp2_with fail
  refine (test_any _ _ _ (by decide) (by decide) _).mono ?_
  rw [wake_t2]
  rintro e w3 ⟨rfl, hb3⟩
  have hc3 := hc2.trans (hb3.mono hc2.size)
  go_wp2_with fail
  refine (compare_any _ _ ⟨by decide, by decide⟩ ⟨by decide, by decide⟩ _).mono ?_
  rw [wake_c]
  rintro e w' ⟨rfl, rfl⟩
  go_wp2_with fail
  refine (sum_any _ _ _ [4607182418800017408, 4607182418800017408] _ (reads_lit _ _ _ _ _ rfl (by simp)) (by decide) (by unfold Words; simp only [List.mem_cons, List.not_mem_nil, or_false]; rintro x (rfl | rfl) <;> exact ⟨by decide, by decide⟩)).mono ?_
  rw [wake_s]
  rintro e w4 ⟨rfl, hb4⟩
  go_wp2_with fail
  go_ret
  exact ⟨rfl, (hc3.alloc hc3.size _).trans (hb4.mono (by have := hc3.size; simp; omega))⟩
end Go.Proofs.Ytkhkjenmajenjaa
