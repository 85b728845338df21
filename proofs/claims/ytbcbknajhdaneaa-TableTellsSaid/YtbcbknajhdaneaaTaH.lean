/- What is proved: contracts of package value's Check, Same, Zero and of the document's Compare and Same. Printed by mkTaH.py. -/
import Derived.Test.YtbcbknajhdaneaaTaG
namespace Go.Proofs.Ytbcbknajhdaneaa
open Go.RowKit
set_option linter.unusedVariables false
set_option linter.unusedSimpArgs false
/-- how values stand -/
def cmpV : List Int → List Int → Int
  | [], [] => 0
  | [], _ :: _ => -1
  | _ :: _, [] => 1
  | x :: a, y :: b => if x < y then -1 else if y < x then 1 else cmpV a b
theorem cmpV_eq : ∀ (a b : List Int), (cmpV a b == 0) = (a == b)
  | [], [] => rfl
  | [], _ :: _ => rfl
  | _ :: _, [] => rfl
  | x :: a, y :: b => by
    have ih := cmpV_eq a b
    show ((if x < y then -1 else if y < x then 1 else cmpV a b) == 0) = _
    by_cases h : x < y
    · rw [if_pos h]
      have : (x :: a == y :: b) = false := by rw [beq_eq_false_iff_ne]; intro e; injection e with e1; omega
      rw [this]; rfl
    · rw [if_neg h]
      by_cases h2 : y < x
      · rw [if_pos h2]
        have : (x :: a == y :: b) = false := by rw [beq_eq_false_iff_ne]; intro e; injection e with e1; omega
        rw [this]; rfl
      · rw [if_neg h2, ih]
        have : x = y := by omega
        subst this
        simp
theorem cmpV_bd (a b : List Int) : cmpV a b = -1 ∨ cmpV a b = 0 ∨ cmpV a b = 1 := by
  induction a generalizing b with
  | nil => cases b <;> simp [cmpV]
  | cons x a ih =>
    cases b with
    | nil => simp [cmpV]
    | cons y b =>
      have e : cmpV (x :: a) (y :: b) = (if x < y then -1 else if y < x then 1 else cmpV a b) := rfl
      rw [e]
      split
      · exact .inl rfl
      · split
        · exact .inr (.inr rfl)
        · exact ih b
def chkV (l : List Int) : Int := if 4 < l.length then 140 else 0
theorem check_v (A : Option Addr) (n c : Nat) (l : List Int) (hl : l.length = n) (hn : n ≤ 281474976710656) (w : World) : Calls Try.prog 91 #[.slice A n c] w fun e w' => e = .returned (.int .i64 (chkV l)) ∧ w = w' := by
  unfold chkV
  rw [hl]
  have HL := Lib.hid hl
  clear hl
  by_cases h : 4 < n
  · rw [if_pos h]
    have t : decide ((4 : Int) < (n : Int)) = true := decide_eq_true (by omega)
    go_enter Try.func91, Try.ntmps91
    go_wp2_with fail
    go_ret
    exact ⟨rfl, rfl⟩
  · rw [if_neg h]
    have t : decide ((4 : Int) < (n : Int)) = false := decide_eq_false (by omega)
    go_enter Try.func91, Try.ntmps91
    go_wp2_with fail
    go_ret
    exact ⟨rfl, rfl⟩
theorem same_v (A : Option Addr) (n c : Nat) (l : List Int) (A2 : Option Addr) (n2 c2 : Nat) (l2 : List Int) (w : World) (hR : Reads w w.heap.size 1 A n (ids l)) (hR2 : Reads w w.heap.size 1 A2 n2 (ids l2)) (hn : n ≤ 281474976710656) (hn2 : n2 ≤ 281474976710656) :
    Calls Try.prog 35 #[.slice A n c, .slice A2 n2 c2] w fun e w' => e = .returned (.bool (l == l2)) ∧ Below w.heap.size w w' := by
  have ce := equal_v A n c l A2 n2 c2 l2 w hR hR2 hn hn2
  clear hR hR2
  generalize (l == l2) = b at ce ⊢
  go_enter Try.func35, Try.ntmps35
  go_wp2_with (first
    | (go_at_call 61; ((with_reducible refine ce.mono ?_); rintro e w1 ⟨rfl, hb⟩))
    | fail)
  go_ret
  exact ⟨rfl, hb⟩
theorem cmpV_l (x : Int) (a : List Int) : cmpV (x :: a) [] = 1 := rfl
theorem cmpV_lt {x y : Int} (a b : List Int) (h : x < y) : cmpV (x :: a) (y :: b) = -1 := by
  show (if x < y then -1 else if y < x then 1 else cmpV a b) = _
  rw [if_pos h]
theorem cmpV_gt {x y : Int} (a b : List Int) (h : y < x) : cmpV (x :: a) (y :: b) = 1 := by
  show (if x < y then -1 else if y < x then 1 else cmpV a b) = _
  rw [if_neg (by omega), if_pos h]
theorem cmpV_step {x y : Int} (a b : List Int) (h : ¬ x < y) (h2 : ¬ y < x) : cmpV (x :: a) (y :: b) = cmpV a b := by
  show (if x < y then -1 else if y < x then 1 else cmpV a b) = _
  rw [if_neg h, if_neg h2]
theorem cmpV_nil (b : List Int) : cmpV [] b = if 0 < b.length then -1 else 0 := by
  cases b with
  | nil => rfl
  | cons y b => rw [if_pos (by simp)]; rfl
set_option maxRecDepth 100000 in
set_option maxHeartbeats 2000000 in
theorem rcompare_v (A : Option Addr) (n c : Nat) (l : List Int) (A2 : Option Addr) (n2 c2 : Nat) (l2 : List Int) (w : World) (hR : Reads w w.heap.size 1 A n (ids l)) (hR2 : Reads w w.heap.size 1 A2 n2 (ids l2)) (hn : n ≤ 281474976710656) (hn2 : n2 ≤ 281474976710656) :
    Calls Try.prog 78 #[.slice A n c, .slice A2 n2 c2] w fun e w' => e = .returned (.int .i64 (cmpV l l2)) ∧ Below w.heap.size w w' := by
  have hl : l.length = n := by have := hR.1; rw [ids_len] at this; omega
  have hl2 : l2.length = n2 := by have := hR2.1; rw [ids_len] at this; omega
  go_enter Try.func78, Try.ntmps78
  go_wp2_with fail
  go_loopw [9] (fun i wr => ∃ k : Nat, k ≤ n ∧ i = .int .i64 k ∧ k ≤ n2 ∧ cmpV l l2 = cmpV (l.drop k) (l2.drop k) ∧ Below w.heap.size w wr)
    (fun i _ => n - (intOf i).toNat)
  case atStart => exact ⟨0, Nat.zero_le _, rfl, Nat.zero_le _, rfl, Below.refl _ _⟩
  case round =>
    obtain ⟨k, hk, rfl, hk2, hq, hb⟩ := hrel
    by_cases hlt : k < n
    · have e1 := List.getElem?_eq_getElem (l := l) (i := k) (by omega)
      generalize l[k]'(by omega) = a at e1
      have D1 := drop_cons e1
      obtain ⟨p, off, rfl, hbl, g⟩ := ids_cell hR e1
      have g10 := cell_below' hb g hbl
      have i1 : (k : Int) < (n : Int) := by omega
      by_cases hlt2 : k < n2
      · have e2 := List.getElem?_eq_getElem (l := l2) (i := k) (by omega)
        generalize l2[k]'(by omega) = b at e2
        have D2 := drop_cons e2
        rw [D1, D2] at hq
        obtain ⟨p2, off2, rfl, hbl2, g2⟩ := ids_cell hR2 e2
        have g20 := cell_below' hb g2 hbl2
        have i2 : (k : Int) < (n2 : Int) := by omega
        have i3 : ((k : Int) == (n2 : Int)) = false := by simp; omega
        rcases (show a < b ∨ (¬ a < b ∧ b < a) ∨ (¬ a < b ∧ ¬ b < a) from by omega) with h | ⟨h, h2⟩ | ⟨h, h2⟩
        · have hf := Lib.hid (hq.trans (cmpV_lt _ _ h))
          clear hq hR hR2 g g2 e1 e2 D1 D2
          go_wp2_with fail
          try rw [Exit.noGoto_ret]
          go_ret
          exact ⟨by rw [hf.out] <;> rfl, hb⟩
        · have hf := Lib.hid (hq.trans (cmpV_gt _ _ h2))
          clear hq hR hR2 g g2 e1 e2 D1 D2
          go_wp2_with fail
          try rw [Exit.noGoto_ret]
          go_ret
          exact ⟨by rw [hf.out] <;> rfl, hb⟩
        · have hf := Lib.hid (hq.trans (cmpV_step _ _ h h2))
          clear hq hR hR2 g g2 e1 e2 D1 D2
          go_wp2_with fail
          go_roundw
          case rel => exact ⟨k + 1, by omega, by go_num, by omega, hf.out, hb⟩
          case measure => simp [intOf]; omega
      · have D2 : l2.drop k = [] := List.drop_of_length_le (by omega)
        rw [D1, D2] at hq
        have hf := Lib.hid (hq.trans (cmpV_l _ _))
        have i3 : ((k : Int) == (n2 : Int)) = true := by simp; omega
        clear hq hR hR2 g e1 D1 D2
        go_wp2_with fail
        try rw [Exit.noGoto_ret]
        go_ret
        exact ⟨by rw [hf.out] <;> rfl, hb⟩
    · have D1 : l.drop k = [] := List.drop_of_length_le (by omega)
      rw [D1, cmpV_nil, List.length_drop] at hq
      by_cases h : n < n2
      · have hf := Lib.hid (hq.trans (if_pos (by omega)))
        have i4 : decide ((n : Int) < (n2 : Int)) = true := decide_eq_true (by omega)
        have i5 : decide (n < n2) = true := decide_eq_true h
        clear hq hR hR2 D1
        go_wp2_with fail
        try rw [Exit.noGoto_ret]
        go_ret
        exact ⟨by rw [hf.out] <;> rfl, hb⟩
      · have hf := Lib.hid (hq.trans (if_neg (by omega)))
        have i4 : decide ((n : Int) < (n2 : Int)) = false := decide_eq_false (by omega)
        have i5 : decide (n < n2) = false := decide_eq_false h
        clear hq hR hR2 D1
        go_wp2_with fail
        try rw [Exit.noGoto_ret]
        go_ret
        exact ⟨by rw [hf.out] <;> rfl, hb⟩
theorem rsame_v (A : Option Addr) (n c : Nat) (l : List Int) (A2 : Option Addr) (n2 c2 : Nat) (l2 : List Int) (w : World) (hR : Reads w w.heap.size 1 A n (ids l)) (hR2 : Reads w w.heap.size 1 A2 n2 (ids l2)) (hn : n ≤ 281474976710656) (hn2 : n2 ≤ 281474976710656) :
    Calls Try.prog 25 #[.slice A n c, .slice A2 n2 c2] w fun e w' => e = .returned (.bool (l == l2)) ∧ Below w.heap.size w w' := by
  have ce := rcompare_v A n c l A2 n2 c2 l2 w hR hR2 hn hn2
  have hq := cmpV_eq l l2
  clear hR hR2
  generalize (l == l2) = b at hq ⊢
  generalize cmpV l l2 = x at ce hq
  go_enter Try.func25, Try.ntmps25
  go_wp2_with (first
    | (go_at_call 78; ((with_reducible refine ce.mono ?_); rintro e w1 ⟨rfl, hb⟩))
    | fail)
  go_ret
  exact ⟨rfl, hb⟩
/-- so many words that are 0 -/
def zerosL (n : Nat) : List Int := List.replicate n 0
theorem last_blk (w : World) (o : Obj) : (w.alloc o).heap[w.heap.size]? = some o := by
  show (w.heap.push o)[w.heap.size]? = some o
  simp
theorem zeros_own (w : World) (n : Nat) {cs : Array Value} (hc : cs.toList = ids (zerosL n)) (hn : n ≤ 65536) : (w.alloc (.cells cs 26)).ownsRow w.heap.size 26 1 (.slice (some ⟨w.heap.size, 0, none⟩) n n) n (ids (zerosL n)) := by
  have hl : (ids (zerosL n)).length = n := by rw [ids_len]; unfold zerosL; simp
  have hs : cs.size = n := by rw [← Array.length_toList, hc, hl]
  refine ⟨by rw [hl, Nat.mul_one], .inr ⟨w.heap.size, n, cs, rfl, Nat.le_refl _, last_blk w _, Nat.le_refl _, by simp only [maxLen]; omega, by omega, ?_⟩⟩
  rw [hc, Nat.mul_one, List.take_of_length_le (by omega)]
theorem made_zeros (n : Nat) : (madeCells #[.int .u64 0] n).toList = ids (zerosL n) := by
  apply List.ext_getElem?
  intro i
  unfold ids zerosL madeCells
  rw [List.getElem?_map, List.getElem?_replicate, Array.toList_map, List.getElem?_map]
  by_cases h : i < n
  · simp [h, Nat.mod_one]
  · simp [h]
def ZeroC (n : Int) (w : World) (e : Ending) (w' : World) : Prop := ∃ v, e = .returned (.tuple #[v, .int .i64 (if 0 ≤ n ∧ n ≤ 4 then 0 else 2)]) ∧ w'.ownsRow w.heap.size 26 1 v (zerosL (if 0 ≤ n ∧ n ≤ 4 then n.toNat else 0)).length (ids (zerosL (if 0 ≤ n ∧ n ≤ 4 then n.toNat else 0))) ∧ Below w.heap.size w w'
set_option maxRecDepth 100000 in
theorem zero_v (n : Int) (w : World) : Calls Try.prog 124 #[.int .i64 n] w (ZeroC n w) := by
  rcases (show n < 0 ∨ (0 ≤ n ∧ 4 < n) ∨ (0 ≤ n ∧ n ≤ 4) from by omega) with h | ⟨h, h2⟩ | ⟨h, h2⟩
  · have hend : ∀ w', Below w.heap.size w w' → ZeroC n w (.returned (.tuple #[.slice none 0 0, .int .i64 2])) w' := by
      intro w' hb
      unfold ZeroC
      rw [if_neg (by omega), if_neg (by omega)]
      exact ⟨_, rfl, World.ownsRow_nil _ _ _ _, hb⟩
    go_enter Try.func124, Try.ntmps124
    go_wp2_with fail
    go_ret2
    exact hend _ (Below.refl _ _)
  · have hend : ∀ w', Below w.heap.size w w' → ZeroC n w (.returned (.tuple #[.slice none 0 0, .int .i64 2])) w' := by
      intro w' hb
      unfold ZeroC
      rw [if_neg (by omega), if_neg (by omega)]
      exact ⟨_, rfl, World.ownsRow_nil _ _ _ _, hb⟩
    have t1 : decide (n < 0) = false := decide_eq_false (by omega)
    go_enter Try.func124, Try.ntmps124
    go_wp2_with fail
    go_ret2
    exact hend _ (Below.refl _ _)
  · obtain ⟨k, rfl⟩ : ∃ k : Nat, n = k := ⟨n.toNat, by omega⟩
    obtain ⟨i0, hi0, hz0, hz1, hz2⟩ := info_parts info_u64
    have hend : ∀ w', w' = w.alloc (.cells (madeCells #[.int .u64 0] k) 26) → ZeroC k w (.returned (.tuple #[.slice (some ⟨w.heap.size, 0, none⟩) k k, .int .i64 0])) w' := by
      rintro w' rfl
      unfold ZeroC
      rw [if_pos ⟨h, h2⟩, if_pos ⟨h, h2⟩]
      have hl : (zerosL (k : Int).toNat).length = k := by unfold zerosL; simp
      rw [hl]
      exact ⟨_, rfl, zeros_own w k (made_zeros k) (by omega), (Below.refl _ _).alloc (Nat.le_refl _) _⟩
    have t1 : decide ((k : Int) < 0) = false := decide_eq_false (by omega)
    have t2 : decide (4 < (k : Int)) = false := decide_eq_false (by omega)
    have co : ∀ (A : Option Addr) (n c : Nat) (W : World), Calls Try.prog 134 #[.slice A n c] W fun e w' => e = .returned (.slice A n c) ∧ W = w' := by
      intro A n c W
      go_enter Try.func134, Try.ntmps134
      go_wp2_with fail
      go_ret
      exact ⟨rfl, rfl⟩
    have hk : k ≤ 4 := by omega
    go_enter Try.func124, Try.ntmps124
    go_wp2_with (first
      | (refine wpList_make_row w rfl (.tmp 10) (.tmp 10) _ rfl 26 i0 (.int .u64 0) Try.underlying43 hi0 hz0 hz1 rfl .i64 .i64 k rfl rfl (by rw [hz2]; omega) (by omega) ?_)
      | (go_at_call 134; ((with_reducible refine (co _ _ _ _).mono ?_); rintro e w1 ⟨rfl, rfl⟩))
      | fail)
    go_ret2
    exact hend _ rfl
end Go.Proofs.Ytbcbknajhdaneaa
