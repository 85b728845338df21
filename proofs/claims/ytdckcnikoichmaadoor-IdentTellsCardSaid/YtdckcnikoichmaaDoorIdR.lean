/- What is proved: how an argument that is a slice of pairs of numbers reads. -/
import Derived.Test.YtdckcnikoichmaaDoorIdM
import Derived.Deep.SlicePairs
import Derived.OpenShut
namespace Go.Proofs.YtdckcnikoichmaaDoor
open Go.RowKit Go.Deep Go.ChangeShapes Go.WideShapes
set_option linter.unusedVariables false
def Two (W : World) (B : Nat) (A : Option Addr) (n : Nat) (F G : Nat → Int) : Prop :=
  0 < n → ∃ b off, A = some ⟨b, off, none⟩ ∧ b < B ∧ ∀ j, j < n → W.cell? ⟨b, off + j * 2, none⟩ = some (.int .i64 (F j)) ∧ W.cell? ⟨b, off + j * 2 + 1, none⟩ = some (.int .i64 (G j))
theorem add_none (b off m : Nat) : (⟨b, off, none⟩ : Addr).add m = ⟨b, off + m, none⟩ := by
  unfold Addr.add
  split
  · rename_i h; subst h; simp
  · rfl
theorem open_two {H : Type} {enc : TypeId × Value → H} {P : Program} {W : World} {t e i : TypeId} {A : Option Addr} {n c : Nat} {d : DataW H} {ps : List MemPlace}
    (ht : P.underlying t = some (.slice e)) (he : P.underlying e = some (.array 2 i)) (hi : P.underlying i = some (.int .i64)) (ce : P.cellsOf e = 2) (ci : P.cellsOf i = 1)
    (h : DataW.Trod enc P W 0 (fun _ => true) true t (.slice A n c) d ps) (hlt : ∀ x ∈ ps, x.block < W.heap.size) :
    n ≤ maxLen ∧ ∃ F G : Nat → Int, Two W W.heap.size A n F G := by
  obtain ⟨fuel, hf⟩ := h
  rcases open_slice ht hf with ⟨h0, _⟩ | ⟨a, len, cap, m, k, D, Pl, hcs, hb, hl, hm, hmm, hxx, hx⟩
  · simp [Value.cells] at h0
    obtain ⟨rfl, rfl, rfl⟩ := h0
    exact ⟨by omega, fun _ => 0, fun _ => 0, fun h => absurd h (by omega)⟩
  · simp [Value.cells] at hcs
    obtain ⟨rfl, rfl, rfl⟩ := hcs
    simp only [Prod.mk.injEq] at hxx
    obtain ⟨_, rfl⟩ := hxx
    simp only [if_true] at hmm
    subst hmm
    refine ⟨by omega, ?_⟩
    have each : ∀ j, j < n → ∃ q : Int × Int, W.cell? (a.add (j * 2)) = some (.int .i64 q.1) ∧ W.cell? (a.add (j * 2 + 1)) = some (.int .i64 q.2) := by
      intro j hj
      obtain ⟨cs', h1, h2⟩ := hx j (by omega)
      rw [ce] at h1
      obtain ⟨_, hlen, hcell⟩ := World.cells?_some h1
      obtain ⟨xs, k2, hk, hxy, _, hxl, hf2⟩ := DataW.trod_array he h2
      match xs, hxl, cs', hlen with
      | [y0, y1], _, [v0, v1], _ =>
        have g0 := hf2 0 (by omega)
        have g1 := hf2 1 (by omega)
        simp [ci] at g0 g1
        obtain ⟨z0, e0, _, _⟩ := DataW.trod_int hi g0
        obtain ⟨z1, e1, _, _⟩ := DataW.trod_int hi g1
        simp only [List.cons.injEq, and_true] at e0 e1
        subst e0
        subst e1
        have c0 := hcell 0 (by omega)
        have c1 := hcell 1 (by omega)
        rw [add_add] at c0 c1
        exact ⟨(z0, z1), by simpa using c0, by simpa using c1⟩
    obtain ⟨q, hq⟩ := choose_lt each
    refine ⟨fun j => (q j).1, fun j => (q j).2, fun h0 => ?_⟩
    obtain ⟨b, off, spot⟩ := a
    have hspot : spot = none := by simpa [Addr.add] using World.cell?_spot (hq 0 h0).1
    subst hspot
    refine ⟨b, off, rfl, ?_, fun j hj => ?_⟩
    · refine hlt (.cell b off) (List.mem_append_left _ (MemPlace.mem_row.2 ⟨0, ?_, by simp⟩))
      rw [ce]; omega
    · have h1 := hq j hj
      rw [add_none, add_none] at h1
      exact h1
end Go.Proofs.YtdckcnikoichmaaDoor
