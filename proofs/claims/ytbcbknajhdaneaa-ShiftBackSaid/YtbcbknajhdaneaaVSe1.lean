/- What is proved: the document's Check of a row moved. -/
import Derived.Test.YtbcbknajhdaneaaVSc1
namespace Go.Proofs.Ytbcbknajhdaneaa
open Go.RowKit Go.Maps
set_option linter.unusedVariables false
set_option linter.unusedSimpArgs false
/-- what both types have is as wide in both, up to a column -/
def WidOk (f to : Tab) (n : Nat) : Prop := ∀ (k i : Nat) (id : Int) (x y : Col), k < n → f.ty[k]? = some id → to.ty[i]? = some id → f.F[k]? = some x → to.F[i]? = some y → x.W = y.W
/-- how Check answers -/
def ChkP (f to : Tab) (row r : Int) : Prop :=
  ((tabB f && tabB to) = false ∧ r = 190) ∨ ((tabB f && tabB to) = true ∧ (row < 0 ∨ (f.es.length : Int) ≤ row) ∧ r = 2) ∨
    ((tabB f && tabB to) = true ∧ ∃ q : Nat, row = (q : Int) ∧ q < f.es.length ∧ ((¬ WidOk f to f.ty.length ∧ r = 231) ∨ (WidOk f to f.ty.length ∧ r = if hasI to.es (idx (idAt f.es q)) then 5 else 0)))
end Go.Proofs.Ytbcbknajhdaneaa
