/- What is proved: words for the document's Right. -/
import Derived.Test.YtibjelonabhcmaaDoorTrO
namespace Go.Proofs.YtibjelonabhcmaaDoor
open Go.RowKit
set_option linter.unusedVariables false
set_option linter.unusedSimpArgs false
theorem new12 {w' : World} {A : Option Addr} (h : Reads w' w'.heap.size 6 A 2 (rels firstL)) : ∃ b off, A = some ⟨b, off, none⟩ ∧ Cells6 w' b off f0 ∧ Cells6 w' b (off + 6) f1 := by
  obtain ⟨b, off, rfl, _, h1⟩ := rels_cells h (k := 0) (x := f0) rfl
  obtain ⟨b', off', e, _, h2⟩ := rels_cells h (k := 1) (x := f1) rfl
  injection e with e
  injection e with e1 e2
  subst e1 e2
  exact ⟨b, off, rfl, by simpa using h1, by simpa using h2⟩
theorem right_split (l : List Rel) (k : Nat) (x y : Rel) (hx : l[0]? = some x) (hy : l[1]? = some y) : rowC l (k + 2) = (releq x f0 && releq y f1 && rowOk l (k + 2)) := by
  induction k with
  | zero =>
    rw [rowC_step hy, rowC_step hx, rowOk_step hy, rowOk_step hx]
    show ((true && (releq x f0 && okAt l 0 x)) && (releq y f1 && okAt l 1 y)) = (releq x f0 && releq y f1 && ((true && okAt l 0 x) && okAt l 1 y))
    cases releq x f0 <;> cases releq y f1 <;> cases okAt l 0 x <;> cases okAt l 1 y <;> rfl
  | succ k ih =>
    show (rowC l (k + 2) && _) = (_ && (rowOk l (k + 2) && _))
    rw [ih]
    cases l[k + 2]? with
    | none => simp
    | some z =>
      show (releq x f0 && releq y f1 && rowOk l (k + 2) && (true && okAt l (k + 2) z)) = (releq x f0 && releq y f1 && (rowOk l (k + 2) && okAt l (k + 2) z))
      rw [Bool.true_and, Bool.and_assoc]
def CellsL (w : World) (b o : Nat) (i : Int) (a e : Bool) (x t r : Int) : Prop := w.cell? ⟨b, o, none⟩ = some (.int .i64 i) ∧ w.cell? ⟨b, o + 1, none⟩ = some (.bool a) ∧ w.cell? ⟨b, o + 2, none⟩ = some (.bool e) ∧
  w.cell? ⟨b, o + 3, none⟩ = some (.int .i64 x) ∧ w.cell? ⟨b, o + 4, none⟩ = some (.int .i64 t) ∧ w.cell? ⟨b, o + 5, none⟩ = some (.int .i64 r)
def TwoFirst (w : World) (e : Ending) (w' : World) : Prop := ∃ b off c, e = .returned (.slice (some ⟨b, off, none⟩) 2 c) ∧ (CellsL w' b off 1 true true 0 1 2 ∧ CellsL w' b (off + 6) 2 true false 0 0 2) ∧ Below w.heap.size w w'
theorem rnew_two (w : World) : Calls Tryd.prog 16 #[] w (TwoFirst w) := by
  refine (rnew_any w).mono ?_
  rintro e w' ⟨A', c', rfl, hr, hb⟩
  obtain ⟨b, off, rfl, h1, h2⟩ := new12 hr
  exact ⟨b, off, c', rfl, ⟨h1, h2⟩, hb⟩
end Go.Proofs.YtibjelonabhcmaaDoor
