/- What is proved: how an argument that is a relation by value reads. -/
import Derived.Test.YtibjelonabhcmaaDoorTr9
namespace Go.Proofs.YtibjelonabhcmaaDoor
open Go.RowKit Go.Deep Go.ChangeShapes Go.WideShapes
set_option linter.unusedVariables false
theorem open_rel {H : Type} {enc : TypeId × Value → H} {W : World} {base : Nat} {sp : Nat → Bool} {held : Bool} {r : Reach} {b0 : Nat} {v : Value} {d : DataW H} {p : List MemPlace}
    (hv : Value.okWide Tryd.prog W r b0 31 v) (h : DataW.Trod enc Tryd.prog W base sp held 31 v d p) : ∃ x : Rel, v = relV x ∧ RelWf x := by
  obtain ⟨cs, rfl, hsz⟩ := okWide_struct Tryd.underlying31 hv
  obtain ⟨fuel, hf⟩ := h
  obtain ⟨x, hx, _, hw⟩ := trod_rel hf
  have hx : cs.toList = relC x := by simpa [Value.cells] using hx
  refine ⟨x, ?_, hw⟩
  unfold relV
  congr 1
  rw [← Array.toList_inj]
  exact hx
end Go.Proofs.YtibjelonabhcmaaDoor
