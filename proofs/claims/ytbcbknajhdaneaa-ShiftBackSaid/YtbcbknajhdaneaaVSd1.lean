/- What is proved: slices.Concat of two rows of ids; what a law's two tables are; ShiftAll's walk. -/
import Derived.Test.YtbcbknajhdaneaaVSc3
import Derived.Lib.AppendZerosOnto
import Derived.Test.YtbcbknajhdaneaaVStop
import Derived.Deep.CutRange
import Derived.Deep.CutBlock
namespace Go.Proofs.Ytbcbknajhdaneaa
open Go.RowKit Go.Maps
set_option linter.unusedVariables false
set_option linter.unusedSimpArgs false
/-- both tables of a law, in memory of their own -/
def OwnAB (W2 : World) (p q : PT) (s5 s6 : Value) (wx : World) : Prop :=
  ∃ (bA bB : Nat) (a b : Tab), s5 = .pointer (some ⟨bA, 0, none⟩) ∧ s6 = .pointer (some ⟨bB, 0, none⟩) ∧ a.p = p ∧ b.p = q ∧ Blk wx bA 25 #[.slice a.TA a.Tn a.Tc, .slice a.CA a.Cn a.Cc, .slice a.EA a.En a.Ec] ∧
    Blk wx bB 25 #[.slice b.TA b.Tn b.Tc, .slice b.CA b.Cn b.Cc, .slice b.EA b.En b.Ec] ∧ TabFresh wx W2.heap.size a ∧ TabFresh wx W2.heap.size b ∧ Below W2.heap.size W2 wx
theorem psm_ownQ (p : PT) : PSm (ownQ p) ∧ (ownQ p).2.2.length ≤ 30 ∧ (ownQ p).2.1.length ≤ 14 ∧ (ownQ p).1.length ≤ 14 ∧ ∀ q ∈ (ownQ p).2.1, q.2.2.length ≤ 150 := by
  have h1 : (ownQ p).1.length ≤ 14 := by show (p.1.take 14).length ≤ 14; rw [List.length_take]; omega
  have h2 : (ownQ p).2.1.length ≤ 14 := ownG_le _
  have h3 : (ownQ p).2.2.length ≤ 30 := by show (p.2.2.take 30).length ≤ 30; rw [List.length_take]; omega
  have h4 : ∀ q ∈ (ownQ p).2.1, q.2.2.length ≤ 150 := fun q hq => by
    obtain ⟨z, _, rfl⟩ := List.mem_map.1 hq
    show (z.2.2.take 150).length ≤ 150
    rw [List.length_take]; omega
  exact ⟨⟨by omega, by omega, by omega, fun q hq => by have := h4 q hq; omega⟩, h3, h2, h1, h4⟩
end Go.Proofs.Ytbcbknajhdaneaa
