/- What is proved: the walk of the law IdentMakes. -/
import Derived.Test.YtdckcnikoichmaaDoorIdR
namespace Go.Proofs.YtdckcnikoichmaaDoor
open Go.RowKit
set_option linter.unusedVariables false
set_option linter.unusedSimpArgs false
abbrev IC (x lo hi : Int) (b : Bool) : Prop := ∀ w, Calls Tryd.prog 12 #[.int .i64 x, .int .i64 lo, .int .i64 hi] w fun e w' => e = .returned (.bool b) ∧ w = w'
abbrev MC (m x y v : Int) : Prop := ∀ w, Calls Tryd.prog 13 #[.int .u64 m, .int .i64 x, .int .i64 y] w fun e w' => e = .returned (.int .u64 v) ∧ w = w'
abbrev EC2 (a b v e0 : Int) : Prop := ∀ w, Calls Tryd.prog 9 #[.int .i64 a, .int .i64 b] w fun e w' => e = .returned (.tuple #[.int .u64 v, .int .i64 e0]) ∧ Below w.heap.size w w'
abbrev CC2 (a v e0 : Int) : Prop := ∀ w, Calls Tryd.prog 10 #[.int .i64 a] w fun e w' => e = .returned (.tuple #[.int .u64 v, .int .i64 e0]) ∧ Below w.heap.size w w'
abbrev QC2 (a b v e0 : Int) : Prop := ∀ w, Calls Tryd.prog 11 #[.int .i64 a, .int .i64 b] w fun e w' => e = .returned (.tuple #[.int .u64 v, .int .i64 e0]) ∧ Below w.heap.size w w'
/-- what the calls of one row give -/
def RowFacts (x y : Int) : Prop := ∃ eV eE cV cE pV pE b1 b2 b3 b4 b5,
  EC2 x y eV eE ∧ CC2 x cV cE ∧ QC2 x y pV pE ∧ IC x 1 1048578 b1 ∧ IC y 0 7 b2 ∧ IC x 1 24 b3 ∧ IC x 0 1048578 b4 ∧ IC y 0 1048578 b5 ∧
  ((b1 = true ∧ b2 = true ∧ eE = 0 ∧ MC 0 y x eV) ∨ (b1 = true ∧ b2 = false ∧ eV = 0 ∧ eE = 2) ∨ (b1 = false ∧ eV = 0 ∧ eE = 2)) ∧
  ((b3 = true ∧ cE = 0 ∧ MC 4611686018427387904 0 x cV) ∨ (b3 = false ∧ cV = 0 ∧ cE = 2)) ∧
  ((b4 = true ∧ b5 = true ∧ pE = 0 ∧ MC 9223372036854775808 x y pV) ∨ (b4 = true ∧ b5 = false ∧ pV = 0 ∧ pE = 2) ∨ (b4 = false ∧ pV = 0 ∧ pE = 2))
theorem row_facts (x y : Int) : RowFacts x y := by
  refine ⟨_, _, _, _, _, _, _, _, _, _, _, fun w => entity_any x y w, fun w => component_any x w, fun w => pair_any x y w, fun w => is_any x 1 1048578 w, fun w => is_any y 0 7 w, fun w => is_any x 1 24 w, fun w => is_any x 0 1048578 w, fun w => is_any y 0 1048578 w, ?_, ?_, ?_⟩
  · rw [inn1, inn1]
    by_cases h1 : 1 ≤ x ∧ x ≤ 1048578
    · by_cases h2 : 0 ≤ y ∧ y ≤ 7
      · left
        refine ⟨decide_eq_true h1, decide_eq_true h2, by unfold entE; rw [if_pos (by omega)], fun w => ?_⟩
        have := made_any 0 y x (.inl rfl) ⟨by omega, by omega⟩ ⟨by omega, by omega⟩ w
        rwa [show entV x y = 0 + y * 4294967296 + x from by unfold entV; rw [if_pos (by omega)]; omega]
      · right; left
        exact ⟨decide_eq_true h1, decide_eq_false h2, by unfold entV; rw [if_neg (by omega)], by unfold entE; rw [if_neg (by omega)]⟩
    · right; right
      exact ⟨decide_eq_false h1, by unfold entV; rw [if_neg (by omega)], by unfold entE; rw [if_neg (by omega)]⟩
  · rw [inn1]
    by_cases h1 : 1 ≤ x ∧ x ≤ 24
    · left
      refine ⟨decide_eq_true h1, by unfold comE; rw [if_pos (by omega)], fun w => ?_⟩
      have := made_any 4611686018427387904 0 x (.inr (.inl rfl)) ⟨by omega, by omega⟩ ⟨by omega, by omega⟩ w
      rwa [show comV x = 4611686018427387904 + 0 * 4294967296 + x from by unfold comV; rw [if_pos (by omega)]; omega]
    · right
      exact ⟨decide_eq_false h1, by unfold comV; rw [if_neg (by omega)], by unfold comE; rw [if_neg (by omega)]⟩
  · rw [inn1, inn1]
    by_cases h1 : 0 ≤ x ∧ x ≤ 1048578
    · by_cases h2 : 0 ≤ y ∧ y ≤ 1048578
      · left
        refine ⟨decide_eq_true h1, decide_eq_true h2, by unfold paiE; rw [if_pos (by omega)], fun w => ?_⟩
        have := made_any 9223372036854775808 x y (.inr (.inr rfl)) ⟨by omega, by omega⟩ ⟨by omega, by omega⟩ w
        rwa [show paiV x y = 9223372036854775808 + x * 4294967296 + y from by unfold paiV; rw [if_pos (by omega)]]
      · right; left
        exact ⟨decide_eq_true h1, decide_eq_false h2, by unfold paiV; rw [if_neg (by omega)], by unfold paiE; rw [if_neg (by omega)]⟩
    · right; right
      exact ⟨decide_eq_false h1, by unfold paiV; rw [if_neg (by omega)], by unfold paiE; rw [if_neg (by omega)]⟩
theorem two_new (w : World) (t : TypeId) (x y : Value) : (w.alloc (.cells #[x, y] t)).cell? ⟨w.heap.size, 0, none⟩ = some x ∧ (w.alloc (.cells #[x, y] t)).cell? ⟨w.heap.size, 1, none⟩ = some y ∧ w.heap.size < (w.alloc (.cells #[x, y] t)).heap.size := by
  have e : (w.alloc (.cells #[x, y] t)).heap[w.heap.size]? = some (.cells #[x, y] t) := by
    show (w.heap.push _)[w.heap.size]? = _
    exact Array.getElem?_push_size
  refine ⟨?_, ?_, ?_⟩
  · unfold World.cell?; simp only [e]; rfl
  · unfold World.cell?; simp only [e]; rfl
  · show w.heap.size < (w.heap.push _).size
    rw [Array.size_push]; omega
theorem c24 : Tryd.prog.cellsOf 24 = 2 := by kernel_rfl
theorem c3 : Tryd.prog.cellsOf 3 = 1 := by kernel_rfl
set_option maxRecDepth 100000 in
set_option maxHeartbeats 8000000 in
theorem makes_walk (A : Option Addr) (n c : Nat) (F G : Nat → Int) (w : World) (hE : Env w) (hn : n ≤ maxLen) (hR : Two w w.heap.size A n F G) :
    Calls Tryd.prog 3 #[.slice A n c] w fun e w' => e = .returned (.bool true) ∧ Below w.heap.size w w' := by
  have hbe := Below.refl w.heap.size w
  unfold maxLen at hn
  have hc24 := c24
  have hc3 := c3
  go_enter Tryd.func3, Tryd.ntmps3
  go_wp2_with (first
    | (go_at_call 8; refine (wakes_any _ (hE.below hbe)).mono ?_; rintro e w' ⟨rfl, hb1⟩; have hbe := hbe_tr hbe hb1)
    | fail)
  go_loopw [21] (fun i wr => ∃ k : Nat, k ≤ n ∧ k ≤ 20 ∧ i = .int .i64 k ∧ Below w.heap.size w wr)
    (fun i _ => n - (intOf i).toNat)
  case atStart => exact ⟨0, Nat.zero_le _, by omega, rfl, by assumption⟩
  case round =>
    obtain ⟨k, hk, hk2, rfl, hb⟩ := hrel
    by_cases hlt : k < n
    · obtain ⟨b, off, rfl, hbl, hcell⟩ := hR (by omega)
      obtain ⟨e1, e2⟩ := hcell k hlt
      have g1 := (hb.cell (p := ⟨b, off + k * 2, none⟩) hbl).trans e1
      have g2 := (hb.cell (p := ⟨b, off + k * 2 + 1, none⟩) hbl).trans e2
      have hrf := row_facts (F k) (G k)
      clear hcell e1 e2 hR
      generalize F k = x at *
      generalize G k = y at *
      obtain ⟨eV, eE, cV, cE, pV, pE, b1, b2, b3, b4, b5, cA, cB, cC, i1, i2, i3, i4, i5, f1, f2, f3⟩ := hrf
      have f1 := Lib.hid f1
      have f2 := Lib.hid f2
      have f3 := Lib.hid f3
      by_cases h20 : k = 20
      · subst h20
        have g3 : wr.cell? ⟨b, off + 40, none⟩ = some (.int .i64 x) := g1
        have g4 : wr.cell? ⟨b, off + 40 + 1, none⟩ = some (.int .i64 y) := g2
        clear g1 g2
        go_wp2_with fail
        try rw [Exit.noGoto_ret]
        go_ret
        exact ⟨rfl, hb.alloc hb.size _⟩
      · have hk20 : ((k : Int) == 20) = false := by simp; omega
        go_wp2_with fail
        obtain ⟨c0, c1, hs0⟩ := two_new wr 24 (.int .i64 x) (.int .i64 y)
        have hb2 := hb.alloc hb.size (Obj.cells #[Value.int IntKind.i64 x, Value.int IntKind.i64 y] 24)
        clear g1 g2
        generalize wr.alloc (Obj.cells #[Value.int IntKind.i64 x, Value.int IntKind.i64 y] 24) = w1 at *
        generalize wr.heap.size = b0 at *
        rcases f1.out with ⟨t1, t2, t3, m1⟩ | ⟨t1, t2, t3, t4⟩ | ⟨t1, t3, t4⟩
        all_goals
          rcases f2.out with ⟨q1, q2, m2⟩ | ⟨q1, q2, q3⟩
          all_goals
            rcases f3.out with ⟨r1, r2, r3, m3⟩ | ⟨r1, r2, r3, r4⟩ | ⟨r1, r3, r4⟩
            all_goals
              clear f1 f2 f3
              subst_vars
              go_wp2_with (first
                | (go_at_call 9; with_reducible refine (cA _).mono ?_; rintro e w' ⟨rfl, hb1⟩; have c0 := (hb1.cell (p := ⟨b0, 0, none⟩) hs0).trans c0; have c1 := (hb1.cell (p := ⟨b0, 1, none⟩) hs0).trans c1; have hs0 := Nat.lt_of_lt_of_le hs0 hb1.size; have hb2 := hbe_tr hb2 hb1)
                | (go_at_call 10; with_reducible refine (cB _).mono ?_; rintro e w' ⟨rfl, hb1⟩; have c0 := (hb1.cell (p := ⟨b0, 0, none⟩) hs0).trans c0; have c1 := (hb1.cell (p := ⟨b0, 1, none⟩) hs0).trans c1; have hs0 := Nat.lt_of_lt_of_le hs0 hb1.size; have hb2 := hbe_tr hb2 hb1)
                | (go_at_call 11; with_reducible refine (cC _).mono ?_; rintro e w' ⟨rfl, hb1⟩; have c0 := (hb1.cell (p := ⟨b0, 0, none⟩) hs0).trans c0; have c1 := (hb1.cell (p := ⟨b0, 1, none⟩) hs0).trans c1; have hs0 := Nat.lt_of_lt_of_le hs0 hb1.size; have hb2 := hbe_tr hb2 hb1)
                | (go_at_call 12; with_reducible refine (i1 _).mono ?_; rintro e w' ⟨rfl, rfl⟩)
                | (go_at_call 12; with_reducible refine (i2 _).mono ?_; rintro e w' ⟨rfl, rfl⟩)
                | (go_at_call 12; with_reducible refine (i3 _).mono ?_; rintro e w' ⟨rfl, rfl⟩)
                | (go_at_call 12; with_reducible refine (i4 _).mono ?_; rintro e w' ⟨rfl, rfl⟩)
                | (go_at_call 12; with_reducible refine (i5 _).mono ?_; rintro e w' ⟨rfl, rfl⟩)
                | (go_at_call 13; with_reducible refine (m1 _).mono ?_; rintro e w' ⟨rfl, rfl⟩)
                | (go_at_call 13; with_reducible refine (m2 _).mono ?_; rintro e w' ⟨rfl, rfl⟩)
                | (go_at_call 13; with_reducible refine (m3 _).mono ?_; rintro e w' ⟨rfl, rfl⟩)
                | fail)
              go_roundw
              case rel => exact ⟨k + 1, by omega, by omega, by go_num, hb2⟩
              case measure => simp [intOf]; omega
    · go_wp2_with fail
      go_ret
      exact ⟨rfl, hb⟩
theorem identMakes_rw (A : Option Addr) (n c : Nat) (F G : Nat → Int) (hn : n ≤ maxLen) (w : World) (hE : Env w) (hR : Two w w.heap.size A n F G) :
    Calls Tryd.prog 3 #[.slice A n c] w fun e w' => e = .returned (.bool true) ∧ Below w.heap.size w w' := makes_walk A n c F G w hE hn hR
end Go.Proofs.YtdckcnikoichmaaDoor
