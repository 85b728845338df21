/- What is proved: how an argument that is a slice of integers reads as a list. -/
import Derived.Test.YtbcbknajhdaneaaVWords
import Derived.ProofKit
import Derived.Carry
namespace Go.Proofs.Ytbcbknajhdaneaa
open Go.ChangeShapes Go.WideShapes Go.ChangeAt Go.RowKit
theorem open_row {H : Type} {enc : TypeId × Value → H} {P : Program} {W : World} {t e : TypeId} {k : IntKind} {A : Option Addr} {n c : Nat} {d : DataW H} {ps : List MemPlace}
    (ht : P.underlying t = some (.slice e)) (he : P.underlying e = some (.int k)) (hc : P.cellsOf e = 1) (h : DataW.Trod enc P W 0 (fun _ => true) true t (.slice A n c) d ps) (hlt : ∀ x ∈ ps, x.block < W.heap.size) :
    (A = none ∧ n = 0 ∧ c = 0 ∧ d = .nil) ∨ ∃ zs : List Int, zs.length = c ∧ n ≤ c ∧ d = .slice (lits k (zs.take n)) (lits k (zs.drop n)) ∧ Reads W W.heap.size 1 A n ((zs.take n).map (Value.int k)) ∧ ∀ x ∈ zs, (Lit.int k x).wf = true := by
  obtain ⟨fuel, hf⟩ := h
  rcases open_ints ht he hc hf with ⟨hcs, hx⟩ | ⟨a, len', cap', zs, hcs, _, hl, hm, hz, hx, hcell, hwz⟩
  · simp [Value.cells] at hcs
    simp only [Prod.mk.injEq] at hx
    exact .inl ⟨hcs.1, hcs.2.1, hcs.2.2, hx.1⟩
  · simp [Value.cells] at hcs
    obtain ⟨rfl, rfl, rfl⟩ := hcs
    simp only [Prod.mk.injEq] at hx
    obtain ⟨rfl, rfl⟩ := hx
    simp only [if_true] at hz
    refine .inr ⟨zs, hz, hl, rfl, ⟨by simp; omega, fun h0 => ⟨a, rfl, ?_, fun j u hu => ?_⟩⟩, hwz⟩
    · obtain ⟨b, off, spot⟩ := a
      have hspot : spot = none := by simpa [Addr.add] using World.cell?_spot (hcell 0 (by omega))
      subst hspot
      exact hlt (.cell b off) (MemPlace.mem_row.2 ⟨0, by omega, by simp⟩)
    · rw [List.getElem?_map, List.getElem?_take] at hu
      split at hu
      · rename_i hj
        have hj2 : j < zs.length := by omega
        rw [List.getElem?_eq_getElem hj2] at hu
        simp at hu
        rw [hcell j hj2, ← hu]
        simp [List.getD, List.getElem?_eq_getElem hj2]
      · cases hu
end Go.Proofs.Ytbcbknajhdaneaa
