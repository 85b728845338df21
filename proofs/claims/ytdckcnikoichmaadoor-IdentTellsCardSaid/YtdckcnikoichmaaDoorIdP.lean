/- What is proved: the walk of the law IdentBack. -/
import Derived.Test.YtdckcnikoichmaaDoorIdM
namespace Go.Proofs.YtdckcnikoichmaaDoor
open Go.RowKit
set_option linter.unusedVariables false
set_option linter.unusedSimpArgs false
abbrev RC (l : List UInt8) (v e : Int) : Prop := ∀ w, Env w → Calls Tryd.prog 22 #[.string ⟨l.toArray⟩] w fun en w' => en = .returned (.tuple #[.int .u64 v, .int .i64 e]) ∧ Below w.heap.size w w'
abbrev EC (a b v : Int) : Prop := ∀ w, Calls Tryd.prog 9 #[.int .i64 a, .int .i64 b] w fun e w' => e = .returned (.tuple #[.int .u64 v, .int .i64 0]) ∧ Below w.heap.size w w'
abbrev CC (a v : Int) : Prop := ∀ w, Calls Tryd.prog 10 #[.int .i64 a] w fun e w' => e = .returned (.tuple #[.int .u64 v, .int .i64 0]) ∧ Below w.heap.size w w'
abbrev QC (a b v : Int) : Prop := ∀ w, Calls Tryd.prog 11 #[.int .i64 a, .int .i64 b] w fun e w' => e = .returned (.tuple #[.int .u64 v, .int .i64 0]) ∧ Below w.heap.size w w'
theorem cut_min (s : ByteArray) : s.extract 0 (min (s.size : Int) 60).toNat = ⟨(s.data.toList.take 60).toArray⟩ := by
  have e : s.data.toList.length = s.size := rfl
  apply ByteArray.ext
  rw [ByteArray.data_extract]
  apply Array.ext'
  have h : (min (s.size : Int) 60).toNat = min s.size 60 := by omega
  rw [h]
  simp only [Array.toList_extract, List.extract_eq_take_drop, Nat.sub_zero, List.drop_zero]
  by_cases h2 : s.size ≤ 60
  · rw [Nat.min_eq_left h2, List.take_of_length_le (by omega), List.take_of_length_le (by omega)]
  · rw [Nat.min_eq_right (by omega)]
set_option maxRecDepth 100000 in
set_option maxHeartbeats 16000000 in
theorem back_go (a v e k x y : Int) (ta l : List UInt8) (s : ByteArray) (w : World) (hE : Env w) (hbe : Below w.heap.size w w) (cK : KC a k) (pA : PC a x y) (hs : s.size ≤ 140737488351232)
    (hk : (k = 0 ∧ x = 0 ∧ y = 0) ∨ (k ≠ 0 ∧ TC a ta ∧ RC ta a 0 ∧ ((k = 1 ∧ EC x y a) ∨ (k = 2 ∧ CC x a) ∨ (k = 3 ∧ QC x y a) ∨ (k = 4 ∧ QC x y a))))
    (hcut : s.extract 0 (min (s.size : Int) 60).toNat = ⟨l.toArray⟩) (rL : RC l v e) (h2 : (e = 110 ∧ v = 0) ∨ (e = 0 ∧ TC v l ∧ ∃ kv, KC v kv ∧ (kv != 0) = true)) :
   Calls Tryd.prog 5 #[.int .u64 a, .string s] w fun e w' => e = .returned (.bool true) ∧ Below w.heap.size w w' := by
  have hll : (l == l) = true := by simp
  have hC := Lib.hid hcut
  clear hcut
  rcases h2 with ⟨rfl, rfl⟩ | ⟨rfl, tV, kv, cV, hkv⟩
  all_goals
    rcases hk with ⟨rfl, rfl, rfl⟩ | ⟨k0, tA, rA, ⟨rfl, cE⟩ | ⟨rfl, cE⟩ | ⟨rfl, cE⟩ | ⟨rfl, cE⟩⟩
    all_goals
      try clear k0
      go_enter Tryd.func5, Tryd.ntmps5
      go_wp2_with (first
        | (go_at_call 8; refine (wakes_any _ (hE.below hbe)).mono ?_; rintro e w' ⟨rfl, hb1⟩; have hbe := hbe_tr hbe hb1)
        | (go_at_call 18; with_reducible refine (cK _).mono ?_; rintro e w' ⟨rfl, hb1⟩; have hbe := hbe_tr hbe hb1)
        | (go_at_call 18; with_reducible refine (cV _).mono ?_; rintro e w' ⟨rfl, hb1⟩; have hbe := hbe_tr hbe hb1)
        | (go_at_call 14; with_reducible refine (pA _).mono ?_; rintro e w' ⟨rfl, hb1⟩; have hbe := hbe_tr hbe hb1)
        | (go_at_call 9; with_reducible refine (cE _).mono ?_; rintro e w' ⟨rfl, hb1⟩; have hbe := hbe_tr hbe hb1)
        | (go_at_call 10; with_reducible refine (cE _).mono ?_; rintro e w' ⟨rfl, hb1⟩; have hbe := hbe_tr hbe hb1)
        | (go_at_call 11; with_reducible refine (cE _).mono ?_; rintro e w' ⟨rfl, hb1⟩; have hbe := hbe_tr hbe hb1)
        | (go_at_call 16; with_reducible refine (tA _ (hE.below hbe)).mono ?_; rintro e w' ⟨rfl, hb1⟩; have hbe := hbe_tr hbe hb1)
        | (go_at_call 16; with_reducible refine (tV _ (hE.below hbe)).mono ?_; rintro e w' ⟨rfl, hb1⟩; have hbe := hbe_tr hbe hb1)
        | (go_at_call 22; with_reducible refine (rA _ (hE.below hbe)).mono ?_; rintro e w' ⟨rfl, hb1⟩; have hbe := hbe_tr hbe hb1)
        | (go_at_call 22; rw [hC.out]; with_reducible refine (rL _ (hE.below hbe)).mono ?_; rintro e w' ⟨rfl, hb1⟩; have hbe := hbe_tr hbe hb1)
        | fail)
      go_ret
      exact ⟨rfl, hbe⟩
end Go.Proofs.YtdckcnikoichmaaDoor
