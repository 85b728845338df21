/- What is proved: a region that draws its order, whose operations read old cells alone and whose callees make memory of their own, is walked once. -/
import Derived.Test.YtbcbknajhdaneaaVWords
import Derived.Deep.QuietTactic
import Derived.BigQuiet
import Derived.Below
namespace Go.Proofs.Ytbcbknajhdaneaa
open Go.RowKit
/-- a world behind W0: what lay in W0 lies there still -/
structure Later (W0 : World) where
  w : World
  h : Below W0.heap.size W0 w
instance (W0 : World) : Inhabited (Later W0) := ⟨⟨W0, Below.refl _ _⟩⟩
theorem Later.cell {W0 : World} {b i : Nat} {v : Value} (p : Later W0) (h : W0.cell? ⟨b, i, none⟩ = some v) (hb : b < W0.heap.size) : p.w.cell? ⟨b, i, none⟩ = some v := (p.h.cell (p := ⟨b, i, none⟩) hb).trans h
end Go.Proofs.Ytbcbknajhdaneaa
