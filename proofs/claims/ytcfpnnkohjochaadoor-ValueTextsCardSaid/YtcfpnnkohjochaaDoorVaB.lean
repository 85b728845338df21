/- What is proved: contracts of package value's Check, Same, Zero, Compare, and of the document's Right, Compare, Same, Zero, Component. -/
import Derived.Test.YtcfpnnkohjochaaDoorVaA
namespace Go.Proofs.YtcfpnnkohjochaaDoor
open Go.RowKit
set_option linter.unusedVariables false
set_option linter.unusedSimpArgs false
/-- how values stand -/
def cmpV : List Int → List Int → Int
  | [], [] => 0
  | [], _ :: _ => -1
  | _ :: _, [] => 1
  | x :: a, y :: b => if x < y then -1 else if y < x then 1 else cmpV a b
theorem cmpV_end : ∀ (a b : List Int), (a = [] ∨ b = []) → cmpV a b = cmpI a.length b.length
  | [], [], _ => rfl
  | [], y :: b, _ => by show (-1 : Int) = cmpI _ _; unfold cmpI; rw [if_pos (by simp <;> omega)]
  | x :: a, [], _ => by show (1 : Int) = cmpI _ _; unfold cmpI; rw [if_neg (by simp <;> omega), if_pos (by simp <;> omega)]
  | x :: a, y :: b, h => by rcases h with h | h <;> cases h
theorem cmpV_cons (x y : Int) (a b : List Int) : cmpV (x :: a) (y :: b) = if cmpI x y = 0 then cmpV a b else cmpI x y := by
  show (if x < y then -1 else if y < x then 1 else cmpV a b) = _
  unfold cmpI
  by_cases h : x < y
  · simp [h]
  · by_cases h2 : y < x
    · simp [h, h2]
    · simp [h, h2]
theorem cmpV_eq : ∀ (a b : List Int), (cmpV a b == 0) = (a == b)
  | [], [] => rfl
  | [], _ :: _ => rfl
  | _ :: _, [] => rfl
  | x :: a, y :: b => by
    have ih := cmpV_eq a b
    show ((if x < y then -1 else if y < x then 1 else cmpV a b) == 0) = _
    by_cases h : x < y
    · rw [if_pos h]
      have : (x :: a == y :: b) = false := by rw [beq_eq_false_iff_ne]; intro e; injection e with e1; omega
      rw [this]; rfl
    · rw [if_neg h]
      by_cases h2 : y < x
      · rw [if_pos h2]
        have : (x :: a == y :: b) = false := by rw [beq_eq_false_iff_ne]; intro e; injection e with e1; omega
        rw [this]; rfl
      · rw [if_neg h2, ih]
        have : x = y := by omega
        subst this
        simp
theorem cmpV_bd (a b : List Int) : cmpV a b = -1 ∨ cmpV a b = 0 ∨ cmpV a b = 1 := by
  induction a generalizing b with
  | nil => cases b <;> simp [cmpV]
  | cons x a ih =>
    cases b with
    | nil => simp [cmpV]
    | cons y b =>
      have e : cmpV (x :: a) (y :: b) = (if x < y then -1 else if y < x then 1 else cmpV a b) := rfl
      rw [e]
      split
      · exact .inl rfl
      · split
        · exact .inr (.inr rfl)
        · exact ih b
def chkV (l : List Int) : Int := if 4 < l.length then 140 else 0
theorem check_v (A : Option Addr) (n c : Nat) (l : List Int) (hl : l.length = n) (hn : n ≤ 281474976710656) (w : World) : Calls Tryd.prog 18 #[.slice A n c] w fun e w' => e = .returned (.int .i64 (chkV l)) ∧ w = w' := by
  unfold chkV
  rw [hl]
  have HL := Lib.hid hl
  clear hl
  by_cases h : 4 < n
  · rw [if_pos h]
    have t : decide ((4 : Int) < (n : Int)) = true := decide_eq_true (by omega)
    go_enter Tryd.func18, Tryd.ntmps18
    go_wp2_with fail
    go_ret
    exact ⟨rfl, rfl⟩
  · rw [if_neg h]
    have t : decide ((4 : Int) < (n : Int)) = false := decide_eq_false (by omega)
    go_enter Tryd.func18, Tryd.ntmps18
    go_wp2_with fail
    go_ret
    exact ⟨rfl, rfl⟩
theorem same_v (A : Option Addr) (n c : Nat) (l : List Int) (A2 : Option Addr) (n2 c2 : Nat) (l2 : List Int) (w : World) (hR : Reads w w.heap.size 1 A n (ids l)) (hR2 : Reads w w.heap.size 1 A2 n2 (ids l2)) (hn : n ≤ 281474976710656) (hn2 : n2 ≤ 281474976710656) :
    Calls Tryd.prog 17 #[.slice A n c, .slice A2 n2 c2] w fun e w' => e = .returned (.bool (l == l2)) ∧ Below w.heap.size w w' := by
  have ce := equal_v A n c l A2 n2 c2 l2 w hR hR2 hn hn2
  clear hR hR2
  generalize (l == l2) = b at ce ⊢
  go_enter Tryd.func17, Tryd.ntmps17
  go_wp2_with (first
    | (go_at_call 16; ((with_reducible refine ce.mono ?_); rintro e w1 ⟨rfl, hb⟩))
    | fail)
  go_ret
  exact ⟨rfl, hb⟩
theorem right_v (A : Option Addr) (n c : Nat) (l : List Int) (hl : l.length = n) (hn : n ≤ 281474976710656) (w : World) : Calls Tryd.prog 12 #[.slice A n c] w fun e w' => e = .returned (.bool (decide (l.length ≤ 4))) ∧ w = w' := by
  rw [hl]
  have HL := Lib.hid hl
  clear hl
  by_cases h : n ≤ 4
  · rw [decide_eq_true h]
    have t : decide ((n : Int) ≤ 4) = true := decide_eq_true (by omega)
    go_enter Tryd.func12, Tryd.ntmps12
    go_wp2_with fail
    go_ret
    exact ⟨rfl, rfl⟩
  · rw [decide_eq_false h]
    have t : decide ((n : Int) ≤ 4) = false := decide_eq_false (by omega)
    go_enter Tryd.func12, Tryd.ntmps12
    go_wp2_with fail
    go_ret
    exact ⟨rfl, rfl⟩
set_option maxRecDepth 100000 in
set_option maxHeartbeats 2000000 in
theorem compare_v (A : Option Addr) (n c : Nat) (l : List Int) (A2 : Option Addr) (n2 c2 : Nat) (l2 : List Int) (w : World) (hR : Reads w w.heap.size 1 A n (ids l)) (hR2 : Reads w w.heap.size 1 A2 n2 (ids l2)) (hn : n ≤ 281474976710656) (hn2 : n2 ≤ 281474976710656) :
    Calls Tryd.prog 26 #[.slice A n c, .slice A2 n2 c2] w fun e w' => e = .returned (.int .i64 (cmpV l l2)) ∧ Below w.heap.size w w' := by
  have hl : l.length = n := by have := hR.1; rw [ids_len] at this; omega
  have hl2 : l2.length = n2 := by have := hR2.1; rw [ids_len] at this; omega
  obtain ⟨q, hq, hq1, hq2⟩ : ∃ q : Nat, (n ≤ n2 ∧ n = q ∨ n2 < n ∧ n2 = q) ∧ q ≤ n ∧ q ≤ n2 := by
    rcases Nat.lt_or_ge n2 n with h | h
    · exact ⟨n2, .inr ⟨h, rfl⟩, by omega, Nat.le_refl _⟩
    · exact ⟨n, .inl ⟨h, rfl⟩, Nat.le_refl _, h⟩
  have ci := fun w => cmp_i (n : Int) (n2 : Int) w
  have hend := Lib.hid (fun (h : cmpV l l2 = cmpV (l.drop q) (l2.drop q)) => (show cmpV l l2 = cmpI n n2 from by
    rw [h]
    rcases hq with ⟨h1, rfl⟩ | ⟨h1, rfl⟩
    · rw [cmpV_end _ _ (.inl (List.drop_of_length_le (by omega))), List.length_drop, List.length_drop, hl, hl2]
      unfold cmpI
      by_cases h3 : n = n2
      · subst h3; simp
      · rw [if_pos (by omega), if_pos (by omega)]
    · rw [cmpV_end _ _ (.inr (List.drop_of_length_le (by omega))), List.length_drop, List.length_drop, hl, hl2]
      unfold cmpI
      rw [if_neg (by omega), if_pos (by omega), if_neg (by omega), if_pos (by omega)]))
  have HCI : ∃ x, cmpI n n2 = x := ⟨_, rfl⟩
  obtain ⟨x, hx⟩ := HCI
  rw [hx] at ci hend
  have HX := Lib.hid hx
  clear hx
  rcases hq with ⟨h1, h9⟩ | ⟨h1, h9⟩
  · subst h9
    go_enter Tryd.func26, Tryd.ntmps26
    go_wp2_with fail
    go_step3
    go_wp2_with (first
      | (go_at_call 37; ((with_reducible refine (ci _).mono ?_); rintro e w1 ⟨rfl, rfl⟩))
      | fail)
    go_step3
    go_wp2_with fail
    go_loopw [5, 18] (fun o i wr => ∃ k : Nat, k ≤ n ∧ i = .int .i64 k ∧ o = .int .i64 x ∧ cmpV l l2 = cmpV (l.drop k) (l2.drop k) ∧ Below w.heap.size w wr)
      (fun _ i _ => n - (intOf i).toNat)
    case atStart => exact ⟨0, Nat.zero_le _, rfl, rfl, rfl, Below.refl _ _⟩
    case round =>
      obtain ⟨k, hk, rfl, rfl, hq, hb⟩ := hrel
      by_cases hlt : k < n
      · have e1 := List.getElem?_eq_getElem (l := l) (i := k) (by omega)
        have e2 := List.getElem?_eq_getElem (l := l2) (i := k) (by omega)
        generalize l[k]'(by omega) = a at e1
        generalize l2[k]'(by omega) = b at e2
        have D1 := drop_cons e1
        have D2 := drop_cons e2
        have hst := hq
        rw [D1, D2, cmpV_cons] at hst
        obtain ⟨p, off, rfl, hbl, g⟩ := ids_cell hR e1
        obtain ⟨p2, off2, rfl, hbl2, g2⟩ := ids_cell hR2 e2
        have g10 := cell_below' hb g hbl
        have g20 := cell_below' hb g2 hbl2
        have i1 : (k : Int) < (n : Int) := by omega
        have i2 : (k : Int) < (n : Int) := by omega
        have i3 : (k : Int) < (n2 : Int) := by omega
        have cu := fun w => cmp_u a b w
        obtain ⟨y, hy⟩ : ∃ y, cmpI a b = y := ⟨_, rfl⟩
        rw [hy] at cu hst
        cases h0 : (y == 0)
        · have hne : (y != 0) = true := by simpa using h0
          have hf := Lib.hid (show cmpV l l2 = y from by rw [hst, if_neg (by simpa using h0)])
          clear hq hR hR2 g g2 e1 e2 D1 D2 hst hy h0
          go_wp2_with fail
          go_quiet ((go_at_call 38; exact Calls.quiet_of_same ((cu _).mono fun _ _ h => ⟨h.1, h.2.symm⟩)))
          go_wp2_with fail
          try rw [Exit.noGoto_ret]
          go_ret
          exact ⟨by rw [hf.out] <;> rfl, below_drewN' hb _⟩
        · have hne : (y != 0) = false := by simpa using h0
          have hf := Lib.hid (show cmpV l l2 = cmpV (l.drop (k + 1)) (l2.drop (k + 1)) from by rw [hst, if_pos (by simpa using h0)])
          clear hq hR hR2 g g2 e1 e2 D1 D2 hst hy h0
          go_wp2_with fail
          go_quiet ((go_at_call 38; exact Calls.quiet_of_same ((cu _).mono fun _ _ h => ⟨h.1, h.2.symm⟩)))
          go_wp2_with fail
          go_roundw
          case rel => exact ⟨k + 1, by omega, by go_num, rfl, hf.out, below_drewN' hb _⟩
          case measure => simp [intOf]; omega
      · have hkq : k = n := by omega
        subst hkq
        have hf := Lib.hid (hend.out hq)
        clear hq hR hR2
        go_wp2_with fail
        try rw [Exit.noGoto_ret]
        go_ret
        exact ⟨by rw [hf.out] <;> rfl, hb⟩
  · subst h9
    go_enter Tryd.func26, Tryd.ntmps26
    go_wp2_with fail
    go_step3
    go_wp2_with (first
      | (go_at_call 37; ((with_reducible refine (ci _).mono ?_); rintro e w1 ⟨rfl, rfl⟩))
      | fail)
    go_step3
    go_wp2_with fail
    go_loopw [5, 18] (fun o i wr => ∃ k : Nat, k ≤ n2 ∧ i = .int .i64 k ∧ o = .int .i64 x ∧ cmpV l l2 = cmpV (l.drop k) (l2.drop k) ∧ Below w.heap.size w wr)
      (fun _ i _ => n2 - (intOf i).toNat)
    case atStart => exact ⟨0, Nat.zero_le _, rfl, rfl, rfl, Below.refl _ _⟩
    case round =>
      obtain ⟨k, hk, rfl, rfl, hq, hb⟩ := hrel
      by_cases hlt : k < n2
      · have e1 := List.getElem?_eq_getElem (l := l) (i := k) (by omega)
        have e2 := List.getElem?_eq_getElem (l := l2) (i := k) (by omega)
        generalize l[k]'(by omega) = a at e1
        generalize l2[k]'(by omega) = b at e2
        have D1 := drop_cons e1
        have D2 := drop_cons e2
        have hst := hq
        rw [D1, D2, cmpV_cons] at hst
        obtain ⟨p, off, rfl, hbl, g⟩ := ids_cell hR e1
        obtain ⟨p2, off2, rfl, hbl2, g2⟩ := ids_cell hR2 e2
        have g10 := cell_below' hb g hbl
        have g20 := cell_below' hb g2 hbl2
        have i1 : (k : Int) < (n2 : Int) := by omega
        have i2 : (k : Int) < (n : Int) := by omega
        have i3 : (k : Int) < (n2 : Int) := by omega
        have cu := fun w => cmp_u a b w
        obtain ⟨y, hy⟩ : ∃ y, cmpI a b = y := ⟨_, rfl⟩
        rw [hy] at cu hst
        cases h0 : (y == 0)
        · have hne : (y != 0) = true := by simpa using h0
          have hf := Lib.hid (show cmpV l l2 = y from by rw [hst, if_neg (by simpa using h0)])
          clear hq hR hR2 g g2 e1 e2 D1 D2 hst hy h0
          go_wp2_with fail
          go_quiet ((go_at_call 38; exact Calls.quiet_of_same ((cu _).mono fun _ _ h => ⟨h.1, h.2.symm⟩)))
          go_wp2_with fail
          try rw [Exit.noGoto_ret]
          go_ret
          exact ⟨by rw [hf.out] <;> rfl, below_drewN' hb _⟩
        · have hne : (y != 0) = false := by simpa using h0
          have hf := Lib.hid (show cmpV l l2 = cmpV (l.drop (k + 1)) (l2.drop (k + 1)) from by rw [hst, if_pos (by simpa using h0)])
          clear hq hR hR2 g g2 e1 e2 D1 D2 hst hy h0
          go_wp2_with fail
          go_quiet ((go_at_call 38; exact Calls.quiet_of_same ((cu _).mono fun _ _ h => ⟨h.1, h.2.symm⟩)))
          go_wp2_with fail
          go_roundw
          case rel => exact ⟨k + 1, by omega, by go_num, rfl, hf.out, below_drewN' hb _⟩
          case measure => simp [intOf]; omega
      · have hkq : k = n2 := by omega
        subst hkq
        have hf := Lib.hid (hend.out hq)
        clear hq hR hR2
        go_wp2_with fail
        try rw [Exit.noGoto_ret]
        go_ret
        exact ⟨by rw [hf.out] <;> rfl, hb⟩
end Go.Proofs.YtcfpnnkohjochaaDoor
