/- What is proved: slices.EqualFunc at values, with value.Same and with the document's Same. the contract of the law's few. -/
import Derived.Test.YtbcbknajhdaneaaVTd5
namespace Go.Proofs.Ytbcbknajhdaneaa
open Go.RowKit
set_option linter.unusedVariables false
set_option linter.unusedSimpArgs false
end Go.Proofs.Ytbcbknajhdaneaa
namespace Go.Proofs.Ytbcbknajhdaneaa
open Go.RowKit
set_option linter.unusedVariables false
set_option linter.unusedSimpArgs false
theorem take_take_le {α : Type} (L : List α) (k m : Nat) (h : k ≤ m) : (L.take k).take m = L.take k := by rw [List.take_take, Nat.min_eq_right h]
end Go.Proofs.Ytbcbknajhdaneaa
