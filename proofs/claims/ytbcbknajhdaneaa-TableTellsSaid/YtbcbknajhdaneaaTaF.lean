/- What is proved: contracts of column's Check. Printed by mkTaF.py. -/
import Derived.Test.YtbcbknajhdaneaaTaE
namespace Go.Proofs.Ytbcbknajhdaneaa
open Go.RowKit
set_option linter.unusedVariables false
set_option linter.unusedSimpArgs false
def colE (W R : Int) (n : Nat) : Int := if colB W R n then 0 else 180
theorem new_cell (w : World) (t : TypeId) (cs : Array Value) {k : Nat} {v : Value} (h : cs[k]? = some v) : (w.alloc (.cells cs t)).cell? ⟨w.heap.size, k, none⟩ = some v := by
  rw [World.cell?_alloc_mark w cs t (0, 0) k]; exact h
set_option maxRecDepth 100000 in
theorem ix_two (a b c d : Value) (W : World) : (Instr.index 152 (.agg #[a, b, c, d]) (.int .i64 0)).run Try.prog W = .ok (.agg #[a, b]) W ∧ (Instr.index 152 (.agg #[a, b, c, d]) (.int .i64 1)).run Try.prog W = .ok (.agg #[c, d]) W := by
  have hu := run_underlying (P := Try.prog) Try.underlying152
  have hu2 := run_underlying (P := Try.prog) Try.underlying151
  have hsz : Try.prog.types[151].size = 2 := by kernel_rfl
  constructor <;> simp [Instr.index, hu, hu2, go_sem, part, sizeOf, typeInfo, hsz] <;> rfl
set_option maxRecDepth 100000 in
set_option maxHeartbeats 4000000 in
theorem ccheck_any (W R : Int) (A : Option Addr) (n c : Nat) (w : World) (hn : n ≤ maxLen) : Calls Try.prog 88 #[colV W R A n c] w fun e w' => e = .returned (.int .i64 (colE W R n)) ∧ Below w.heap.size w w' := by
  unfold maxLen at hn
  unfold colV colE
  have hB := (Below.refl w.heap.size w).alloc (Nat.le_refl _) (.cells #[.int .i64 W, .int .i64 R, .slice A n c] 68)
  have y0 := new_cell w 68 #[.int .i64 W, .int .i64 R, .slice A n c] (k := 0) rfl
  have y1 := new_cell w 68 #[.int .i64 W, .int .i64 R, .slice A n c] (k := 1) rfl
  have y2 := new_cell w 68 #[.int .i64 W, .int .i64 R, .slice A n c] (k := 2) rfl
  have ix0 := fun W0 => (ix_two (.int .i64 W) (.int .i64 4) (.int .i64 R) (.int .i64 1048578) W0).1
  have ix1 := fun W0 => (ix_two (.int .i64 W) (.int .i64 4) (.int .i64 R) (.int .i64 1048578) W0).2
  rcases col_ways W R n with ⟨h, k⟩ | ⟨h, h2, k⟩ | ⟨h, h2, g, k⟩ | ⟨h, h2, g, g2, k⟩ | ⟨h, h2, g, g2, e, k⟩ | ⟨h, h2, g, g2, e, k⟩
  case inl =>
    have t1 : decide (W < 0) = true := decide_eq_true (by omega)
    rw [k]; clear k
    go_enter Try.func88, Try.ntmps88
    go_wp2_with fail
    go_step3
    go_wp2
    go_step3
    go_wp2
    go_loopw [3, 13] (fun o i wr => (i = .int .i64 0 ∧ o = .int .i64 180) ∧ Below (w.alloc (.cells #[.int .i64 W, .int .i64 R, .slice A n c] 68)).heap.size (w.alloc (.cells #[.int .i64 W, .int .i64 R, .slice A n c] 68)) wr)
      (fun _ i _ => 3 - (intOf i).toNat)
    case atStart => exact ⟨⟨rfl, rfl⟩, Below.refl _ _⟩
    case round =>
      obtain ⟨hj, hb⟩ := hrel
      have x0 := cell_below' hb y0 (by simp)
      have x1 := cell_below' hb y1 (by simp)
      have x2 := cell_below' hb y2 (by simp)
      have z0 := fun o : Obj => cell_below' (hb.alloc hb.size o) y0 (by simp)
      have z1 := fun o : Obj => cell_below' (hb.alloc hb.size o) y1 (by simp)
      have z2 := fun o : Obj => cell_below' (hb.alloc hb.size o) y2 (by simp)
      clear y0 y1 y2
      rcases hj with ⟨rfl, rfl⟩
      · go_wp2_with fail
        try rw [Exit.noGoto_ret]
        go_ret
        exact ⟨rfl, hB.trans ((by first | exact hb | exact hb.alloc hb.size _ : Below _ _ _).mono hB.size)⟩
  case inr.inl =>
    have t1 : decide (W < 0) = false := decide_eq_false (by omega)
    have t2 : decide (4 < W) = true := decide_eq_true (by omega)
    rw [k]; clear k
    go_enter Try.func88, Try.ntmps88
    go_wp2_with fail
    go_step3
    go_wp2
    go_step3
    go_wp2
    go_loopw [3, 13] (fun o i wr => (i = .int .i64 0 ∧ o = .int .i64 180) ∧ Below (w.alloc (.cells #[.int .i64 W, .int .i64 R, .slice A n c] 68)).heap.size (w.alloc (.cells #[.int .i64 W, .int .i64 R, .slice A n c] 68)) wr)
      (fun _ i _ => 3 - (intOf i).toNat)
    case atStart => exact ⟨⟨rfl, rfl⟩, Below.refl _ _⟩
    case round =>
      obtain ⟨hj, hb⟩ := hrel
      have x0 := cell_below' hb y0 (by simp)
      have x1 := cell_below' hb y1 (by simp)
      have x2 := cell_below' hb y2 (by simp)
      have z0 := fun o : Obj => cell_below' (hb.alloc hb.size o) y0 (by simp)
      have z1 := fun o : Obj => cell_below' (hb.alloc hb.size o) y1 (by simp)
      have z2 := fun o : Obj => cell_below' (hb.alloc hb.size o) y2 (by simp)
      clear y0 y1 y2
      rcases hj with ⟨rfl, rfl⟩
      · go_wp2_with fail
        try rw [Exit.noGoto_ret]
        go_ret
        exact ⟨rfl, hB.trans ((by first | exact hb | exact hb.alloc hb.size _ : Below _ _ _).mono hB.size)⟩
  case inr.inr.inl =>
    have t1 : decide (W < 0) = false := decide_eq_false (by omega)
    have t2 : decide (4 < W) = false := decide_eq_false (by omega)
    have t3 : decide (R < 0) = true := decide_eq_true (by omega)
    rw [k]; clear k
    go_enter Try.func88, Try.ntmps88
    go_wp2_with fail
    go_step3
    go_wp2
    go_step3
    go_wp2
    go_loopw [3, 13] (fun o i wr => ((i = .int .i64 0 ∧ o = .int .i64 180) ∨ (i = .int .i64 1 ∧ o = .int .i64 180)) ∧ Below (w.alloc (.cells #[.int .i64 W, .int .i64 R, .slice A n c] 68)).heap.size (w.alloc (.cells #[.int .i64 W, .int .i64 R, .slice A n c] 68)) wr)
      (fun _ i _ => 3 - (intOf i).toNat)
    case atStart => exact ⟨.inl ⟨rfl, rfl⟩, Below.refl _ _⟩
    case round =>
      obtain ⟨hj, hb⟩ := hrel
      have x0 := cell_below' hb y0 (by simp)
      have x1 := cell_below' hb y1 (by simp)
      have x2 := cell_below' hb y2 (by simp)
      have z0 := fun o : Obj => cell_below' (hb.alloc hb.size o) y0 (by simp)
      have z1 := fun o : Obj => cell_below' (hb.alloc hb.size o) y1 (by simp)
      have z2 := fun o : Obj => cell_below' (hb.alloc hb.size o) y2 (by simp)
      clear y0 y1 y2
      rcases hj with ⟨rfl, rfl⟩ | ⟨rfl, rfl⟩
      · go_wp2_with fail
        go_roundw
        case rel => exact ⟨.inr ⟨by go_num, by trivial⟩, by first | exact hb | exact hb.alloc hb.size _⟩
        case measure => simp [intOf]
      · go_wp2_with fail
        try rw [Exit.noGoto_ret]
        go_ret
        exact ⟨rfl, hB.trans ((by first | exact hb | exact hb.alloc hb.size _ : Below _ _ _).mono hB.size)⟩
  case inr.inr.inr.inl =>
    have t1 : decide (W < 0) = false := decide_eq_false (by omega)
    have t2 : decide (4 < W) = false := decide_eq_false (by omega)
    have t3 : decide (R < 0) = false := decide_eq_false (by omega)
    have t4 : decide (1048578 < R) = true := decide_eq_true (by omega)
    rw [k]; clear k
    go_enter Try.func88, Try.ntmps88
    go_wp2_with fail
    go_step3
    go_wp2
    go_step3
    go_wp2
    go_loopw [3, 13] (fun o i wr => ((i = .int .i64 0 ∧ o = .int .i64 180) ∨ (i = .int .i64 1 ∧ o = .int .i64 180)) ∧ Below (w.alloc (.cells #[.int .i64 W, .int .i64 R, .slice A n c] 68)).heap.size (w.alloc (.cells #[.int .i64 W, .int .i64 R, .slice A n c] 68)) wr)
      (fun _ i _ => 3 - (intOf i).toNat)
    case atStart => exact ⟨.inl ⟨rfl, rfl⟩, Below.refl _ _⟩
    case round =>
      obtain ⟨hj, hb⟩ := hrel
      have x0 := cell_below' hb y0 (by simp)
      have x1 := cell_below' hb y1 (by simp)
      have x2 := cell_below' hb y2 (by simp)
      have z0 := fun o : Obj => cell_below' (hb.alloc hb.size o) y0 (by simp)
      have z1 := fun o : Obj => cell_below' (hb.alloc hb.size o) y1 (by simp)
      have z2 := fun o : Obj => cell_below' (hb.alloc hb.size o) y2 (by simp)
      clear y0 y1 y2
      rcases hj with ⟨rfl, rfl⟩ | ⟨rfl, rfl⟩
      · go_wp2_with fail
        go_roundw
        case rel => exact ⟨.inr ⟨by go_num, by trivial⟩, by first | exact hb | exact hb.alloc hb.size _⟩
        case measure => simp [intOf]
      · go_wp2_with fail
        try rw [Exit.noGoto_ret]
        go_ret
        exact ⟨rfl, hB.trans ((by first | exact hb | exact hb.alloc hb.size _ : Below _ _ _).mono hB.size)⟩
  case inr.inr.inr.inr.inl =>
    have t1 : decide (W < 0) = false := decide_eq_false (by omega)
    have t2 : decide (4 < W) = false := decide_eq_false (by omega)
    have t3 : decide (R < 0) = false := decide_eq_false (by omega)
    have t4 : decide (1048578 < R) = false := decide_eq_false (by omega)
    obtain ⟨m1, m2⟩ := mul_small h h2 g g2
    obtain ⟨q, hq⟩ : ∃ q, W * R = q := ⟨_, rfl⟩
    rw [hq] at e m1 m2
    rw [k]; clear k
    go_enter Try.func88, Try.ntmps88
    go_wp2_with fail
    go_step3
    go_wp2
    go_step3
    go_wp2
    go_loopw [3, 13] (fun o i wr => ((i = .int .i64 0 ∧ o = .int .i64 180) ∨ (i = .int .i64 1 ∧ o = .int .i64 180) ∨ (i = .int .i64 2 ∧ o = .int .i64 180)) ∧ Below (w.alloc (.cells #[.int .i64 W, .int .i64 R, .slice A n c] 68)).heap.size (w.alloc (.cells #[.int .i64 W, .int .i64 R, .slice A n c] 68)) wr)
      (fun _ i _ => 3 - (intOf i).toNat)
    case atStart => exact ⟨.inl ⟨rfl, rfl⟩, Below.refl _ _⟩
    case round =>
      obtain ⟨hj, hb⟩ := hrel
      have x0 := cell_below' hb y0 (by simp)
      have x1 := cell_below' hb y1 (by simp)
      have x2 := cell_below' hb y2 (by simp)
      have z0 := fun o : Obj => cell_below' (hb.alloc hb.size o) y0 (by simp)
      have z1 := fun o : Obj => cell_below' (hb.alloc hb.size o) y1 (by simp)
      have z2 := fun o : Obj => cell_below' (hb.alloc hb.size o) y2 (by simp)
      clear y0 y1 y2
      rcases hj with ⟨rfl, rfl⟩ | ⟨rfl, rfl⟩ | ⟨rfl, rfl⟩
      · go_wp2_with fail
        go_roundw
        case rel => exact ⟨.inr (.inl ⟨by go_num, by trivial⟩), by first | exact hb | exact hb.alloc hb.size _⟩
        case measure => simp [intOf]
      · go_wp2_with fail
        go_roundw
        case rel => exact ⟨.inr (.inr ⟨by go_num, by trivial⟩), by first | exact hb | exact hb.alloc hb.size _⟩
        case measure => simp [intOf]
      · go_wp2_with fail
        try rw [Exit.noGoto_ret]
        go_ret
        exact ⟨rfl, hB.trans ((by first | exact hb | exact hb.alloc hb.size _ : Below _ _ _).mono hB.size)⟩
  case inr.inr.inr.inr.inr =>
    have t1 : decide (W < 0) = false := decide_eq_false (by omega)
    have t2 : decide (4 < W) = false := decide_eq_false (by omega)
    have t3 : decide (R < 0) = false := decide_eq_false (by omega)
    have t4 : decide (1048578 < R) = false := decide_eq_false (by omega)
    obtain ⟨m1, m2⟩ := mul_small h h2 g g2
    obtain ⟨q, hq⟩ : ∃ q, W * R = q := ⟨_, rfl⟩
    rw [hq] at e m1 m2
    rw [k]; clear k
    go_enter Try.func88, Try.ntmps88
    go_wp2_with fail
    go_step3
    go_wp2
    go_step3
    go_wp2
    go_loopw [3, 13] (fun o i wr => ((i = .int .i64 0 ∧ o = .int .i64 180) ∨ (i = .int .i64 1 ∧ o = .int .i64 180) ∨ (i = .int .i64 2 ∧ o = .int .i64 0)) ∧ Below (w.alloc (.cells #[.int .i64 W, .int .i64 R, .slice A n c] 68)).heap.size (w.alloc (.cells #[.int .i64 W, .int .i64 R, .slice A n c] 68)) wr)
      (fun _ i _ => 3 - (intOf i).toNat)
    case atStart => exact ⟨.inl ⟨rfl, rfl⟩, Below.refl _ _⟩
    case round =>
      obtain ⟨hj, hb⟩ := hrel
      have x0 := cell_below' hb y0 (by simp)
      have x1 := cell_below' hb y1 (by simp)
      have x2 := cell_below' hb y2 (by simp)
      have z0 := fun o : Obj => cell_below' (hb.alloc hb.size o) y0 (by simp)
      have z1 := fun o : Obj => cell_below' (hb.alloc hb.size o) y1 (by simp)
      have z2 := fun o : Obj => cell_below' (hb.alloc hb.size o) y2 (by simp)
      clear y0 y1 y2
      rcases hj with ⟨rfl, rfl⟩ | ⟨rfl, rfl⟩ | ⟨rfl, rfl⟩
      · go_wp2_with fail
        go_roundw
        case rel => exact ⟨.inr (.inl ⟨by go_num, by trivial⟩), by first | exact hb | exact hb.alloc hb.size _⟩
        case measure => simp [intOf]
      · go_wp2_with fail
        go_roundw
        case rel => exact ⟨.inr (.inr ⟨by go_num, by trivial⟩), by first | exact hb | exact hb.alloc hb.size _⟩
        case measure => simp [intOf]
      · go_wp2_with fail
        try rw [Exit.noGoto_ret]
        go_ret
        exact ⟨rfl, hB.trans ((by first | exact hb | exact hb.alloc hb.size _ : Below _ _ _).mono hB.size)⟩
end Go.Proofs.Ytbcbknajhdaneaa
