/- What is proved: contracts of the document's Compare, Same, Zero, Component, and of package value's Zero. -/
import Derived.Test.YtcfpnnkohjochaaDoorVaB
namespace Go.Proofs.YtcfpnnkohjochaaDoor
open Go.RowKit
set_option linter.unusedVariables false
set_option linter.unusedSimpArgs false
theorem cmpV_l (x : Int) (a : List Int) : cmpV (x :: a) [] = 1 := rfl
theorem cmpV_lt {x y : Int} (a b : List Int) (h : x < y) : cmpV (x :: a) (y :: b) = -1 := by
  show (if x < y then -1 else if y < x then 1 else cmpV a b) = _
  rw [if_pos h]
theorem cmpV_gt {x y : Int} (a b : List Int) (h : y < x) : cmpV (x :: a) (y :: b) = 1 := by
  show (if x < y then -1 else if y < x then 1 else cmpV a b) = _
  rw [if_neg (by omega), if_pos h]
theorem cmpV_step {x y : Int} (a b : List Int) (h : ¬ x < y) (h2 : ¬ y < x) : cmpV (x :: a) (y :: b) = cmpV a b := by
  show (if x < y then -1 else if y < x then 1 else cmpV a b) = _
  rw [if_neg h, if_neg h2]
theorem cmpV_nil (b : List Int) : cmpV [] b = if 0 < b.length then -1 else 0 := by
  cases b with
  | nil => rfl
  | cons y b => rw [if_pos (by simp)]; rfl
set_option maxRecDepth 100000 in
set_option maxHeartbeats 2000000 in
theorem rcompare_v (A : Option Addr) (n c : Nat) (l : List Int) (A2 : Option Addr) (n2 c2 : Nat) (l2 : List Int) (w : World) (hR : Reads w w.heap.size 1 A n (ids l)) (hR2 : Reads w w.heap.size 1 A2 n2 (ids l2)) (hn : n ≤ 281474976710656) (hn2 : n2 ≤ 281474976710656) :
    Calls Tryd.prog 27 #[.slice A n c, .slice A2 n2 c2] w fun e w' => e = .returned (.int .i64 (cmpV l l2)) ∧ Below w.heap.size w w' := by
  have hl : l.length = n := by have := hR.1; rw [ids_len] at this; omega
  have hl2 : l2.length = n2 := by have := hR2.1; rw [ids_len] at this; omega
  go_enter Tryd.func27, Tryd.ntmps27
  go_wp2_with fail
  go_loopw [9] (fun i wr => ∃ k : Nat, k ≤ n ∧ i = .int .i64 k ∧ k ≤ n2 ∧ cmpV l l2 = cmpV (l.drop k) (l2.drop k) ∧ Below w.heap.size w wr)
    (fun i _ => n - (intOf i).toNat)
  case atStart => exact ⟨0, Nat.zero_le _, rfl, Nat.zero_le _, rfl, Below.refl _ _⟩
  case round =>
    obtain ⟨k, hk, rfl, hk2, hq, hb⟩ := hrel
    by_cases hlt : k < n
    · have e1 := List.getElem?_eq_getElem (l := l) (i := k) (by omega)
      generalize l[k]'(by omega) = a at e1
      have D1 := drop_cons e1
      obtain ⟨p, off, rfl, hbl, g⟩ := ids_cell hR e1
      have g10 := cell_below' hb g hbl
      have i1 : (k : Int) < (n : Int) := by omega
      by_cases hlt2 : k < n2
      · have e2 := List.getElem?_eq_getElem (l := l2) (i := k) (by omega)
        generalize l2[k]'(by omega) = b at e2
        have D2 := drop_cons e2
        rw [D1, D2] at hq
        obtain ⟨p2, off2, rfl, hbl2, g2⟩ := ids_cell hR2 e2
        have g20 := cell_below' hb g2 hbl2
        have i2 : (k : Int) < (n2 : Int) := by omega
        have i3 : ((k : Int) == (n2 : Int)) = false := by simp; omega
        rcases (show a < b ∨ (¬ a < b ∧ b < a) ∨ (¬ a < b ∧ ¬ b < a) from by omega) with h | ⟨h, h2⟩ | ⟨h, h2⟩
        · have hf := Lib.hid (hq.trans (cmpV_lt _ _ h))
          clear hq hR hR2 g g2 e1 e2 D1 D2
          go_wp2_with fail
          try rw [Exit.noGoto_ret]
          go_ret
          exact ⟨by rw [hf.out] <;> rfl, hb⟩
        · have hf := Lib.hid (hq.trans (cmpV_gt _ _ h2))
          clear hq hR hR2 g g2 e1 e2 D1 D2
          go_wp2_with fail
          try rw [Exit.noGoto_ret]
          go_ret
          exact ⟨by rw [hf.out] <;> rfl, hb⟩
        · have hf := Lib.hid (hq.trans (cmpV_step _ _ h h2))
          clear hq hR hR2 g g2 e1 e2 D1 D2
          go_wp2_with fail
          go_roundw
          case rel => exact ⟨k + 1, by omega, by go_num, by omega, hf.out, hb⟩
          case measure => simp [intOf]; omega
      · have D2 : l2.drop k = [] := List.drop_of_length_le (by omega)
        rw [D1, D2] at hq
        have hf := Lib.hid (hq.trans (cmpV_l _ _))
        have i3 : ((k : Int) == (n2 : Int)) = true := by simp; omega
        clear hq hR hR2 g e1 D1 D2
        go_wp2_with fail
        try rw [Exit.noGoto_ret]
        go_ret
        exact ⟨by rw [hf.out] <;> rfl, hb⟩
    · have D1 : l.drop k = [] := List.drop_of_length_le (by omega)
      rw [D1, cmpV_nil, List.length_drop] at hq
      by_cases h : n < n2
      · have hf := Lib.hid (hq.trans (if_pos (by omega)))
        have i4 : decide ((n : Int) < (n2 : Int)) = true := decide_eq_true (by omega)
        have i5 : decide (n < n2) = true := decide_eq_true h
        clear hq hR hR2 D1
        go_wp2_with fail
        try rw [Exit.noGoto_ret]
        go_ret
        exact ⟨by rw [hf.out] <;> rfl, hb⟩
      · have hf := Lib.hid (hq.trans (if_neg (by omega)))
        have i4 : decide ((n : Int) < (n2 : Int)) = false := decide_eq_false (by omega)
        have i5 : decide (n < n2) = false := decide_eq_false h
        clear hq hR hR2 D1
        go_wp2_with fail
        try rw [Exit.noGoto_ret]
        go_ret
        exact ⟨by rw [hf.out] <;> rfl, hb⟩
theorem rsame_v (A : Option Addr) (n c : Nat) (l : List Int) (A2 : Option Addr) (n2 c2 : Nat) (l2 : List Int) (w : World) (hR : Reads w w.heap.size 1 A n (ids l)) (hR2 : Reads w w.heap.size 1 A2 n2 (ids l2)) (hn : n ≤ 281474976710656) (hn2 : n2 ≤ 281474976710656) :
    Calls Tryd.prog 28 #[.slice A n c, .slice A2 n2 c2] w fun e w' => e = .returned (.bool (l == l2)) ∧ Below w.heap.size w w' := by
  have ce := rcompare_v A n c l A2 n2 c2 l2 w hR hR2 hn hn2
  have hq := cmpV_eq l l2
  clear hR hR2
  generalize (l == l2) = b at hq ⊢
  generalize cmpV l l2 = x at ce hq
  go_enter Tryd.func28, Tryd.ntmps28
  go_wp2_with (first
    | (go_at_call 27; ((with_reducible refine ce.mono ?_); rintro e w1 ⟨rfl, hb⟩))
    | fail)
  go_ret
  exact ⟨rfl, hb⟩
/-- so many words that are 0 -/
def zerosL (n : Nat) : List Int := List.replicate n 0
end Go.Proofs.YtcfpnnkohjochaaDoor
