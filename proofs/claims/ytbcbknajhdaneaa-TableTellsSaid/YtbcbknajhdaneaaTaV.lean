/- What is proved: contracts of column's New, and Push of one value. -/
import Derived.Test.YtbcbknajhdaneaaTaU
namespace Go.Proofs.Ytbcbknajhdaneaa
open Go.RowKit
set_option linter.unusedVariables false
set_option linter.unusedSimpArgs false
theorem blk_cells3 {w : World} {g : Nat} {t : TypeId} {a b c : Value} (h : Blk w g t #[a, b, c]) :
    (w.cell? ⟨g, 0, none⟩ = some a ∧ w.cell? ⟨g, 1, none⟩ = some b ∧ w.cell? ⟨g, 2, none⟩ = some c) ∧ (∀ i, w.frozen? ⟨g, i, none⟩ = false) :=
  ⟨⟨h.cell 0, h.cell 1, h.cell 2⟩, fun i => h.frozen i⟩
def okW (n : Int) : Bool := decide (0 ≤ n ∧ n ≤ 4)
def newE (n : Int) : Int := if okW n then 0 else 2
set_option maxRecDepth 100000 in
theorem cnew_any (n : Int) (w : World) : Calls Try.prog 94 #[.int .i64 n] w fun e w' => e = .returned (.tuple #[colV (if okW n then n else 0) 0 none 0 0, .int .i64 (newE n)]) ∧ Below w.heap.size w w' := by
  have hB := (Below.refl w.heap.size w).alloc (Nat.le_refl _) (.cells #[.int .i64 0, .int .i64 0, .slice none 0 0] 68)
  have hk := Blk.new w 68 #[.int .i64 0, .int .i64 0, .slice none 0 0]
  have cz := fun W => zero_v n W
  unfold ZeroC at cz
  have c68 : Try.prog.cellsOf 68 = 3 := by kernel_rfl
  unfold newE colV
  cases ho : okW n
  · have h0 : ¬ (0 ≤ n ∧ n ≤ 4) := by intro h; unfold okW at ho; rw [decide_eq_true h] at ho; cases ho
    simp only [h0, if_false] at cz
    clear h0 ho
    go_enter Try.func94, Try.ntmps94
    go_wp2_with (first
      | (go_at_call 124; ((with_reducible refine (cz _).mono ?_); rintro e w2 ⟨v, rfl, hown, hb2⟩; obtain ⟨⟨q0, q1, q2⟩, qf⟩ := blk_cells3 (blk_below hk hb2); have qf0 := qf 0; have qf1 := qf 1; have qf2 := qf 2; clear qf hown))
      | fail)
    refine bodyPost_ret (v := .tuple #[.agg #[.int .i64 0, .int .i64 0, .slice none 0 0], .int .i64 2]) (by simp [results, Try.results94, go_sem, *]) rfl ⟨rfl, ?_⟩
    have hb3 := hB.trans (hb2.mono hB.size)
    exact ((hb3.setCell (p := ⟨w.heap.size, 0, none⟩) (Nat.le_refl _) _).setCell (p := ⟨w.heap.size, 1, none⟩) (Nat.le_refl _) _).setCell (p := ⟨w.heap.size, 2, none⟩) (Nat.le_refl _) _
  · have h0 : 0 ≤ n ∧ n ≤ 4 := by unfold okW at ho; exact of_decide_eq_true ho
    simp only [h0, and_self, if_true] at cz
    clear h0 ho
    go_enter Try.func94, Try.ntmps94
    go_wp2_with (first
      | (go_at_call 124; ((with_reducible refine (cz _).mono ?_); rintro e w2 ⟨v, rfl, hown, hb2⟩; obtain ⟨⟨q0, q1, q2⟩, qf⟩ := blk_cells3 (blk_below hk hb2); have qf0 := qf 0; have qf1 := qf 1; have qf2 := qf 2; clear qf hown))
      | fail)
    refine bodyPost_ret (v := .tuple #[.agg #[.int .i64 n, .int .i64 0, .slice none 0 0], .int .i64 0]) (by simp [results, Try.results94, go_sem, *]) rfl ⟨rfl, ?_⟩
    have hb3 := hB.trans (hb2.mono hB.size)
    exact ((hb3.setCell (p := ⟨w.heap.size, 0, none⟩) (Nat.le_refl _) _).setCell (p := ⟨w.heap.size, 1, none⟩) (Nat.le_refl _) _).setCell (p := ⟨w.heap.size, 2, none⟩) (Nat.le_refl _) _
theorem push1_any (A : Option Addr) (n c b : Nat) (W : Int) (w : World) (h : w.cell? ⟨b, 0, none⟩ = some (.int .i64 W)) :
    Calls Try.prog 113 #[.slice A n c, .pointer (some ⟨b, 0, none⟩)] w fun e w' => e = .returned (.bool ((n : Int) != W)) ∧ w = w' := by
  go_enter Try.func113, Try.ntmps113
  go_wp2_with fail
  go_ret
  exact ⟨rfl, rfl⟩
set_option maxRecDepth 100000 in
theorem ixf1_any (A : Option Addr) (c : Nat) (x : Rw) (b : Nat) (W : Int) (w : World) (h : w.cell? ⟨b, 0, none⟩ = some (.int .i64 W)) (hR : Reads w w.heap.size 1 A 1 (rws [x])) :
    Calls Try.prog 131 #[.slice A 1 c, .func (.func 113) #[] #[.pointer (some ⟨b, 0, none⟩)]] w fun e w' => e = .returned (.int .i64 (if ((x.n : Int) != W) = true then 0 else -1)) ∧ w = w' := by
  obtain ⟨ba, off, rfl, _, g⟩ := rws_cell hR (k := 0) (x := x) rfl
  have cp := fun A n c => push1_any A n c b W w h
  simp only [Nat.add_zero] at g
  obtain ⟨xA, xn, xc, xl⟩ := x
  simp only at g ⊢
  clear hR h
  have cx := cp xA xn xc
  clear cp
  cases hd : ((xn : Int) != W)
  · rw [hd] at cx
    clear hd
    go_enter Try.func131, Try.ntmps131
    go_wp2_with fail
    go_loop [8] (fun i => i = .int .i64 0 ∨ i = .int .i64 1) (fun i => 1 - (intOf i).toNat)
    case atStart => exact .inl rfl
    case round =>
      rcases hrel with rfl | rfl
      · go_wp2_with (first | ((with_reducible refine cx.mono ?_); rintro e w2 ⟨rfl, rfl⟩) | fail)
        go_round
        case rel => exact .inr rfl
        case measure => simp [intOf]
      · go_wp2_with fail
        go_ret
        exact ⟨rfl, rfl⟩
  · rw [hd] at cx
    clear hd
    go_enter Try.func131, Try.ntmps131
    go_wp2_with fail
    go_loop [8] (fun i => i = .int .i64 0) (fun i => 1 - (intOf i).toNat)
    case atStart => rfl
    case round =>
      subst hrel
      go_wp2_with (first | ((with_reducible refine cx.mono ?_); rintro e w2 ⟨rfl, rfl⟩) | fail)
      go_ret
      exact ⟨rfl, rfl⟩
theorem cf1_any (A : Option Addr) (c : Nat) (x : Rw) (b : Nat) (W : Int) (w : World) (h : w.cell? ⟨b, 0, none⟩ = some (.int .i64 W)) (hR : Reads w w.heap.size 1 A 1 (rws [x])) :
    Calls Try.prog 112 #[.slice A 1 c, .func (.func 113) #[] #[.pointer (some ⟨b, 0, none⟩)]] w fun e w' => e = .returned (.bool ((x.n : Int) != W)) ∧ w = w' := by
  have ci := ixf1_any A c x b W w h hR
  clear h hR
  cases hd : ((x.n : Int) != W)
  all_goals
    rw [hd] at ci
    simp only [Bool.false_eq_true, if_false, if_true] at ci
    clear hd
    go_enter Try.func112, Try.ntmps112
    go_wp2_with (first | (go_at_call 131; ((with_reducible refine ci.mono ?_); rintro e w2 ⟨rfl, rfl⟩)) | fail)
    go_ret
    exact ⟨rfl, rfl⟩
end Go.Proofs.Ytbcbknajhdaneaa
