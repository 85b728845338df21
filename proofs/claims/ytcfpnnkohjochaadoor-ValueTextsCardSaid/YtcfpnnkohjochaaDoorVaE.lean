/- What is proved: contracts of the document's Fits and Zero, and of package value's Zero. -/
import Derived.Test.YtcfpnnkohjochaaDoorVaD
namespace Go.Proofs.YtcfpnnkohjochaaDoor
open Go.RowKit
set_option linter.unusedVariables false
set_option linter.unusedSimpArgs false
def rfitsB (L : List Int) (c n : Int) : Bool := wideB L && (compB c && n == wdAt L c)
theorem rfits_eq (L : List Int) (c n : Int) : rfitsB L c n = (widE L c == 0 && n == widV L c) := by
  unfold rfitsB compB widV widE
  cases wideB L
  · simp
  · by_cases h : 1 ≤ c ∧ c ≤ 24
    · simp [h]
    · simp [h]
set_option maxRecDepth 100000 in
set_option maxHeartbeats 2000000 in
theorem rfits_v (L : List Int) (hL : L.length = 24) (c : Int) (A : Option Addr) (n cp : Nat) (hn : n ≤ 281474976710656) (w : World) : Calls Tryd.prog 25 #[.agg (wdV L), .int .i64 c, .slice A n cp] w fun e w' => e = .returned (.bool (rfitsB L c n)) ∧ Below w.heap.size w w' := by
  have hin : (Tryd.prog.info? 43).map (·.size) = some (wdV L).size := by rw [info_wd, wdV_size, hL]
  have hbk := last_blk w (.cells (wdV L) 43)
  have HIN := Lib.hid hin
  have HBK := Lib.hid hbk
  clear hin hbk
  have cw := fun W => rwide_v L hL W
  have cc := fun W => comp_v c W
  have hb0 := (Below.refl w.heap.size w).alloc (Nat.le_refl _) (.cells (wdV L) 43)
  unfold rfitsB
  cases k1 : wideB L
  · rw [k1] at cw
    clear k1 hL cc
    go_enter Tryd.func25, Tryd.ntmps25
    go_wp2_with (first
      | (refine wpList_load_row rfl 43 (.tmp 3) rfl w.heap.size rfl 43 (wdV L) (0, 0) _ HBK.out Tryd.underlying43 rfl HIN.out ?_)
      | (go_at_call 23; ((with_reducible refine (cw _).mono ?_); rintro e w1 ⟨rfl, hb1⟩))
      | fail)
    go_ret
    exact ⟨rfl, hb0.trans (hb1.mono (by simp))⟩
  · rw [k1] at cw
    cases k2 : compB c
    · rw [k2] at cc
      clear k1 k2 hL
      go_enter Tryd.func25, Tryd.ntmps25
      go_wp2_with (first
        | (refine wpList_load_row rfl 43 (.tmp 3) rfl w.heap.size rfl 43 (wdV L) (0, 0) _ HBK.out Tryd.underlying43 rfl HIN.out ?_)
        | (go_at_call 23; ((with_reducible refine (cw _).mono ?_); rintro e w1 ⟨rfl, hb1⟩))
        | (go_at_call 24; ((with_reducible refine (cc _).mono ?_); rintro e w2 ⟨rfl, rfl⟩))
        | fail)
      go_ret
      exact ⟨rfl, hb0.trans (hb1.mono (by simp))⟩
    · rw [k2] at cc
      have hk : 1 ≤ c ∧ c ≤ 24 := by unfold compB at k2; simpa using k2
      obtain ⟨k3, k4⟩ := hk
      obtain ⟨k, hk, hk24⟩ : ∃ k : Nat, c = (k : Int) + 1 ∧ k < 24 := ⟨(c - 1).toNat, by omega, by omega⟩
      have g0 := new_cell w 43 (wdV L) (wdV_at (wdAt_at hL k3 k4))
      generalize wdAt L c = x at *
      have hk9 : (c - 1).toNat = k := by omega
      rw [hk9] at g0
      have t7 : (k : Int) < 24 := by omega
      have hg := fun (W : World) (h : Below (w.heap.size + 1) (w.alloc (.cells (wdV L) 43)) W) => cell_below' h g0 (by simp)
      clear hk9 k1 k2 k3 k4 hL g0
      subst hk
      go_enter Tryd.func25, Tryd.ntmps25
      go_wp2_with (first
        | (refine wpList_load_row rfl 43 (.tmp 3) rfl w.heap.size rfl 43 (wdV L) (0, 0) _ HBK.out Tryd.underlying43 rfl HIN.out ?_)
        | (go_at_call 23; ((with_reducible refine (cw _).mono ?_); rintro e w1 ⟨rfl, hb1⟩; have hb2 := hb1.mono (show w.heap.size + 1 ≤ _ from by simp); have g1 := hg _ hb2; have hb3 := hb0.trans (hb1.mono (show w.heap.size ≤ _ from by simp)); clear hb1 hb2))
        | (go_at_call 24; ((with_reducible refine (cc _).mono ?_); rintro e w2 ⟨rfl, rfl⟩))
        | fail)
      go_ret
      exact ⟨by simp, hb3⟩
theorem zeros_own (w : World) (n : Nat) {cs : Array Value} (hc : cs.toList = ids (zerosL n)) (hn : n ≤ 65536) : (w.alloc (.cells cs 38)).ownsRow w.heap.size 38 1 (.slice (some ⟨w.heap.size, 0, none⟩) n n) n (ids (zerosL n)) := by
  have hl : (ids (zerosL n)).length = n := by rw [ids_len]; unfold zerosL; simp
  have hs : cs.size = n := by rw [← Array.length_toList, hc, hl]
  refine ⟨by rw [hl, Nat.mul_one], .inr ⟨w.heap.size, n, cs, rfl, Nat.le_refl _, last_blk w _, Nat.le_refl _, by simp only [maxLen]; omega, by omega, ?_⟩⟩
  rw [hc, Nat.mul_one, List.take_of_length_le (by omega)]
theorem made_zeros (n : Nat) : (madeCells #[.int .u64 0] n).toList = ids (zerosL n) := by
  apply List.ext_getElem?
  intro i
  unfold ids zerosL madeCells
  rw [List.getElem?_map, List.getElem?_replicate, Array.toList_map, List.getElem?_map]
  by_cases h : i < n
  · simp [h, Nat.mod_one]
  · simp [h]
def ZeroC (n : Int) (w : World) (e : Ending) (w' : World) : Prop := ∃ v, e = .returned (.tuple #[v, .int .i64 (if 0 ≤ n ∧ n ≤ 4 then 0 else 2)]) ∧ w'.ownsRow w.heap.size 38 1 v (zerosL (if 0 ≤ n ∧ n ≤ 4 then n.toNat else 0)).length (ids (zerosL (if 0 ≤ n ∧ n ≤ 4 then n.toNat else 0))) ∧ Below w.heap.size w w'
set_option maxRecDepth 100000 in
theorem zero_v (n : Int) (w : World) : Calls Tryd.prog 20 #[.int .i64 n] w (ZeroC n w) := by
  rcases (show n < 0 ∨ (0 ≤ n ∧ 4 < n) ∨ (0 ≤ n ∧ n ≤ 4) from by omega) with h | ⟨h, h2⟩ | ⟨h, h2⟩
  · have hend : ∀ w', Below w.heap.size w w' → ZeroC n w (.returned (.tuple #[.slice none 0 0, .int .i64 2])) w' := by
      intro w' hb
      unfold ZeroC
      rw [if_neg (by omega), if_neg (by omega)]
      exact ⟨_, rfl, World.ownsRow_nil _ _ _ _, hb⟩
    go_enter Tryd.func20, Tryd.ntmps20
    go_wp2_with fail
    go_ret2
    exact hend _ (Below.refl _ _)
  · have hend : ∀ w', Below w.heap.size w w' → ZeroC n w (.returned (.tuple #[.slice none 0 0, .int .i64 2])) w' := by
      intro w' hb
      unfold ZeroC
      rw [if_neg (by omega), if_neg (by omega)]
      exact ⟨_, rfl, World.ownsRow_nil _ _ _ _, hb⟩
    have t1 : decide (n < 0) = false := decide_eq_false (by omega)
    go_enter Tryd.func20, Tryd.ntmps20
    go_wp2_with fail
    go_ret2
    exact hend _ (Below.refl _ _)
  · obtain ⟨k, rfl⟩ : ∃ k : Nat, n = k := ⟨n.toNat, by omega⟩
    obtain ⟨i0, hi0, hz0, hz1, hz2⟩ := info_parts info_u64
    have hend : ∀ w', w' = w.alloc (.cells (madeCells #[.int .u64 0] k) 38) → ZeroC k w (.returned (.tuple #[.slice (some ⟨w.heap.size, 0, none⟩) k k, .int .i64 0])) w' := by
      rintro w' rfl
      unfold ZeroC
      rw [if_pos ⟨h, h2⟩, if_pos ⟨h, h2⟩]
      have hl : (zerosL (k : Int).toNat).length = k := by unfold zerosL; simp
      rw [hl]
      exact ⟨_, rfl, zeros_own w k (made_zeros k) (by omega), (Below.refl _ _).alloc (Nat.le_refl _) _⟩
    have t1 : decide ((k : Int) < 0) = false := decide_eq_false (by omega)
    have t2 : decide (4 < (k : Int)) = false := decide_eq_false (by omega)
    have co : ∀ (A : Option Addr) (n c : Nat) (W : World), Calls Tryd.prog 36 #[.slice A n c] W fun e w' => e = .returned (.slice A n c) ∧ W = w' := by
      intro A n c W
      go_enter Tryd.func36, Tryd.ntmps36
      go_wp2_with fail
      go_ret
      exact ⟨rfl, rfl⟩
    have hk : k ≤ 4 := by omega
    go_enter Tryd.func20, Tryd.ntmps20
    go_wp2_with (first
      | (refine wpList_make_row w rfl (.tmp 10) (.tmp 10) _ rfl 38 i0 (.int .u64 0) Tryd.underlying25 hi0 hz0 hz1 rfl .i64 .i64 k rfl rfl (by rw [hz2]; omega) (by omega) ?_)
      | (go_at_call 36; ((with_reducible refine (co _ _ _ _).mono ?_); rintro e w1 ⟨rfl, rfl⟩))
      | fail)
    go_ret2
    exact hend _ rfl
def RZeroC (k : Nat) (w : World) (e : Ending) (w' : World) : Prop := OwnV (zerosL k) w e w'
theorem rzero_v (k : Nat) (hk : k ≤ 4) (w : World) : Calls Tryd.prog 29 #[.int .i64 k] w (OwnV (zerosL k) w) := by
  obtain ⟨i0, hi0, hz0, hz1, hz2⟩ := info_parts info_u64
  have hend : ∀ w', w' = w.alloc (.cells (madeCells #[.int .u64 0] k) 38) → OwnV (zerosL k) w (.returned (.slice (some ⟨w.heap.size, 0, none⟩) k k)) w' := by
    rintro w' rfl
    have hl : (zerosL k).length = k := by unfold zerosL; simp
    unfold OwnV
    rw [hl]
    exact ⟨_, rfl, zeros_own w k (made_zeros k) (by omega), (Below.refl _ _).alloc (Nat.le_refl _) _⟩
  go_enter Tryd.func29, Tryd.ntmps29
  go_wp2_with (first
    | (refine wpList_make_row w rfl (.tmp 3) (.tmp 3) _ rfl 38 i0 (.int .u64 0) Tryd.underlying26 hi0 hz0 hz1 rfl .i64 .i64 k rfl rfl (by rw [hz2]; omega) (by omega) ?_)
    | fail)
  go_ret
  exact hend _ rfl
end Go.Proofs.YtcfpnnkohjochaaDoor
