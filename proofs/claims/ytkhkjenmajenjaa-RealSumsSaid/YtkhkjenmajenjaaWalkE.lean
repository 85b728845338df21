/- What is proved: the contracts of few and slices.Clone. -/
import Derived.Test.YtkhkjenmajenjaaWalkD
namespace Go.Proofs.Ytkhkjenmajenjaa
open Go.RowKit
set_option linter.unusedVariables false
theorem Reads.prefix_ {w : World} {B n m : Nat} {A : Option Addr} {xs : List Value} (h : Reads w B 1 A n xs) (hm : m ≤ n) : Reads w B 1 A m (xs.take m) := by
  refine ⟨by rw [List.length_take, h.1]; omega, fun h0 => ?_⟩
  obtain ⟨ad, e, hb, hc⟩ := h.2 (by omega)
  refine ⟨ad, e, hb, fun j u hu => hc j u ?_⟩
  rw [List.getElem?_take] at hu
  split at hu
  · exact hu
  · cases hu
theorem u64s_one (l : List Int) : ∀ u ∈ u64s l, u.oneCell' = true := by
  intro u hu
  unfold u64s at hu
  simp at hu
  obtain ⟨x, _, rfl⟩ := hu
  rfl
set_option maxHeartbeats 1000000 in
theorem clone_any (A : Option Addr) (n c : Nat) (l : List Int) (w : World) (hR : Reads w w.heap.size 1 A n (u64s l)) (hn : n ≤ 65536) :
    Calls Try.prog 37 #[.slice A n c] w fun e w' => ∃ A' c', (e = .returned (.slice A' n c') ∧ Reads w' w'.heap.size 1 A' n (u64s l)) ∧ Below w.heap.size w w' := by
  have qT : ∀ (w : World) (a : Option Addr) (n c n' c' : Nat), (binOp .eql 33 (.slice a n c) (.slice none n' c')).run Try.prog w = .ok (.bool a.isNone) w := fun w a n c n' c' => Lib.run_eql_slice_nil w _ _ a n c n' c' Try.underlying33
  obtain ⟨i0, hi0, hz0, hz1, hz2⟩ := info_parts Try.info22
  cases A with
  | none =>
    have h0 : n = 0 := by
      rcases Nat.eq_zero_or_pos n with h0 | h0
      · exact h0
      · obtain ⟨ad, h, _⟩ := hR.2 h0
        cases h
    subst h0
    go_enter Try.func37, Try.ntmps37
    go_wp2
    go_ret
    exact ⟨none, 0, ⟨rfl, hR⟩, Below.refl _ _⟩
  | some a =>
    go_enter Try.func37, Try.ntmps37
    go_wp2_with (first
        | (at_builtin
           refine wpList_append_any _ rfl (.tmp 5) (.tmp 6) _ rfl w.heap.size 22 i0 _ 1 8 Try.underlying33 hi0 hz0 hz1 hz2 rfl (by omega) _ 0 [] rfl
             ?_ w.heap.size (some a) n c (u64s l) rfl ?_ (u64s_one l) (by simp only [maxLen]; omega) (by omega) (by simp) ?_
           · exact World.ownsRow_lit _ _ _ (Nat.le_refl _) (by simp [maxLen]) rfl
           · exact hR.alloc (Nat.le_refl _) _
           intro v1 w1 hown1 hg1 hat1))
    have hb1 := own_grown_below ((Below.refl w.heap.size w).alloc (Nat.le_refl _) _) (World.ownsRow_lit (e := 22) (size := 1) w #[] 0 (Nat.le_refl _) (by simp [maxLen]) rfl) hg1
    rw [Nat.zero_add, List.nil_append] at hown1
    obtain ⟨A1, c1, rfl⟩ := own_slice hown1
    have hRf := Reads.of_own hown1
    clear hown1 hg1 hat1
    go_wp2
    go_ret
    exact ⟨A1, c1, ⟨rfl, hRf⟩, hb1⟩
set_option maxHeartbeats 1000000 in
theorem few_any (A : Option Addr) (n c : Nat) (l : List Int) (w : World) (hR : Reads w w.heap.size 1 A n (u64s l)) (hc : n ≤ c) (hn : c ≤ 281474976710656) :
    Calls Try.prog 13 #[.slice A n c] w fun e w' => ∃ A' c', (e = .returned (.slice A' (min n 40) c') ∧ Reads w' w'.heap.size 1 A' (min n 40) (u64s (l.take 40))) ∧ Below w.heap.size w w' := by
  have hl : l.length = n := by have := hR.1; rw [length_u64s] at this; omega
  have hR2 : Reads w w.heap.size 1 A (min n 40) (u64s (l.take 40)) := by
    have := hR.prefix_ (m := min n 40) (by omega)
    unfold u64s at this ⊢
    rw [← List.map_take] at this
    have e : l.take (min n 40) = l.take 40 := by
      rw [← hl, Nat.min_comm, ← List.take_take, List.take_length]
    rwa [e] at this
  clear hl hR
  rcases Nat.lt_or_ge 40 n with h40 | h40
  · have e : min n 40 = 40 := by omega
    rw [e] at hR2 ⊢
    clear e
    go_enter Try.func13, Try.ntmps13
    go_wp2_with fail
    refine (clone_any _ _ _ _ _ hR2 (by omega)).mono ?_
    rintro e w' ⟨A1, c1, ⟨rfl, hr1⟩, hb1⟩
    go_wp2_with fail
    go_ret
    exact ⟨A1, c1, ⟨rfl, hr1⟩, hb1⟩
  · have e : min n 40 = n := by omega
    rw [e] at hR2 ⊢
    clear e
    go_enter Try.func13, Try.ntmps13
    go_wp2_with fail
    refine (clone_any _ _ _ _ _ hR2 (by omega)).mono ?_
    rintro e w' ⟨A1, c1, ⟨rfl, hr1⟩, hb1⟩
    go_wp2_with fail
    go_ret
    exact ⟨A1, c1, ⟨rfl, hr1⟩, hb1⟩
end Go.Proofs.Ytkhkjenmajenjaa
