/- What is proved: a region that draws its order, whose operations read old cells alone and whose callees make memory of their own, is walked once. -/
import Derived.Test.YtbcbknajhdaneaaQWords
import Derived.Deep.QuietTactic
import Derived.BigQuiet
import Derived.Below
namespace Go.Proofs.Ytbcbknajhdaneaa
open Go.RowKit
/-- a world behind W0: what lay in W0 lies there still -/
structure Later (W0 : World) where
  w : World
  h : Below W0.heap.size W0 w
instance (W0 : World) : Inhabited (Later W0) := ⟨⟨W0, Below.refl _ _⟩⟩
theorem wp_later {P : Program} {id : Nat} {Q : Exit → Act → World → Prop} {a : Act} {w : World} {l : List Oper} (hm : P.follows .mixedOrders = true) (hB : Region.lexB .any l.toArray = true)
    (h : wpQuiet P l.toArray (fun w' => ∃ p : Later w, w' = p.w) (fun a' => ∀ w', (∃ p : Later w, w' = p.w) → Q .normal a' w') l a) : (Code.region id l.toArray true).wp P Q a w :=
  wp_region_quiet (C := fun w' => ∃ p : Later w, w' = p.w) hm hB ⟨⟨w.drew, (Below.refl _ _).drew⟩, rfl⟩ (by simpa using h)
theorem Later.cell {W0 : World} {b i : Nat} {v : Value} (p : Later W0) (h : W0.cell? ⟨b, i, none⟩ = some v) (hb : b < W0.heap.size) : p.w.cell? ⟨b, i, none⟩ = some v := (p.h.cell (p := ⟨b, i, none⟩) hb).trans h
theorem later_below {P : Program} {f : FuncId} {args : Array Value} {W0 : World} {p : Later W0} {v : Value}
    (h : Calls P f args p.w fun e w' => e = .returned v ∧ Below p.w.heap.size p.w w') : Calls P f args p.w fun e w'' => e = .returned v ∧ ∃ q : Later W0, w'' = q.w :=
  h.mono fun _ w' ⟨he, hm⟩ => ⟨he, ⟨w', p.h.trans (hm.mono p.h.size)⟩, rfl⟩
end Go.Proofs.Ytbcbknajhdaneaa
