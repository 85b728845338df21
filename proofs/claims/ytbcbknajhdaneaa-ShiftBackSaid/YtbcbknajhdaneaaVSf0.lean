/- What is proved: the shift laws' spoil, and that a Moved stands behind it. -/
import Derived.Test.YtbcbknajhdaneaaVSe4
namespace Go.Proofs.Ytbcbknajhdaneaa
open Go.RowKit Go.Maps
set_option linter.unusedVariables false
set_option linter.unusedSimpArgs false
def BelowV (base : Nat) (w w' : World) : Prop := Below base w w' ∧ ∀ (g : Nat) (cs : Array Value), Blk w g 82 cs → Blk w' g 82 cs
theorem BelowV.refl (base : Nat) (w : World) : BelowV base w w := ⟨Below.refl _ _, fun _ _ h => h⟩
theorem BelowV.alloc {base : Nat} {w w' : World} (h : BelowV base w w') (hb : base ≤ w'.heap.size) (o : Obj) : BelowV base w (w'.alloc o) :=
  ⟨h.1.alloc hb o, fun g cs hk => (h.2 g cs hk).alloc o⟩
end Go.Proofs.Ytbcbknajhdaneaa
