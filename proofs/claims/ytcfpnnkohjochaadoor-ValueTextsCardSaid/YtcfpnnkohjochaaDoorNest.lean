/- What is proved: how an argument that is a slice of slices of integers reads. -/
import Derived.Test.YtcfpnnkohjochaaDoorRowkit
import Derived.Deep.Slices
import Derived.Deep.SlicePairs
namespace Go.Proofs.YtcfpnnkohjochaaDoor
open Go.ChangeShapes Go.WideShapes Go.ChangeAt Go.RowKit Go.Deep
set_option linter.unusedVariables false
/-- a row within a row: its slice, and what it reads -/
structure RowA where
  A : Option Addr
  n : Nat
  c : Nat
  l : List Int
deriving Inhabited
def RowA.v (x : RowA) : Value := .slice x.A x.n x.c
def RowOk (k : IntKind) (w : World) (B : Nat) (x : RowA) : Prop := Reads w B 1 x.A x.n (x.l.map (Value.int k)) ∧ x.n ≤ x.c ∧ x.c ≤ maxLen ∧ ∀ y ∈ x.l, (Lit.int k y).wf = true
def RV (k : IntKind) (w : World) (B : Nat) (A : Option Addr) (n : Nat) (F : List RowA) : Prop := Reads w B 1 A n (F.map RowA.v) ∧ ∀ x ∈ F, RowOk k w B x
theorem RowOk.keep {k : IntKind} {w w' : World} {B : Nat} {x : RowA} (h : RowOk k w B x) (hb : Below B w w') : RowOk k w' B x := ⟨h.1.below hb, h.2⟩
theorem RowOk.more {k : IntKind} {w : World} {B B' : Nat} {x : RowA} (h : RowOk k w B x) (hb : B ≤ B') : RowOk k w B' x := ⟨h.1.more hb, h.2⟩
theorem RV.keep {k : IntKind} {w w' : World} {B n : Nat} {A : Option Addr} {F : List RowA} (h : RV k w B A n F) (hb : Below B w w') : RV k w' B A n F := ⟨h.1.below hb, fun x hx => (h.2 x hx).keep hb⟩
theorem open_nest {H : Type} {enc : TypeId × Value → H} {P : Program} {W : World} {t e i : TypeId} {k : IntKind} {A : Option Addr} {n c : Nat} {d : DataW H} {ps : List MemPlace}
    (ht : P.underlying t = some (.slice e)) (he : P.underlying e = some (.slice i)) (hi : P.underlying i = some (.int k)) (ce : P.cellsOf e = 1) (ci : P.cellsOf i = 1)
    (h : DataW.Trod enc P W 0 (fun _ => true) true t (.slice A n c) d ps) (hlt : ∀ x ∈ ps, x.block < W.heap.size) :
    n ≤ maxLen ∧ ∃ F : List RowA, RV k W W.heap.size A n F := by
  obtain ⟨fuel, hf⟩ := h
  rcases open_slice1 ht ce hf with ⟨h0, _⟩ | ⟨a, len, cap, m, fu, V, D, Pl, hcs, hb, hl, hm, hmm, hxx, hx⟩
  · simp [Value.cells] at h0
    obtain ⟨rfl, rfl, rfl⟩ := h0
    exact ⟨by omega, [], Reads.none_, by simp⟩
  · simp [Value.cells] at hcs
    obtain ⟨rfl, rfl, rfl⟩ := hcs
    simp only [Prod.mk.injEq] at hxx
    obtain ⟨_, rfl⟩ := hxx
    simp only [if_true] at hmm
    subst hmm
    refine ⟨by omega, ?_⟩
    have each : ∀ j, j < n → ∃ q : RowA, W.cell? (a.add j) = some q.v ∧ RowOk k W W.heap.size q := by
      intro j hj
      obtain ⟨h1, h2⟩ := hx j (by omega)
      have hV : ∃ A' n' c', V j = .slice A' n' c' := by
        rcases open_ints he hi ci h2 with ⟨hcs, _⟩ | ⟨a', len', cap', zs, hcs, _⟩
        · simp only [List.cons.injEq, and_true] at hcs; exact ⟨_, _, _, hcs⟩
        · simp only [List.cons.injEq, and_true] at hcs; exact ⟨_, _, _, hcs⟩
      obtain ⟨A', n', c', hV⟩ := hV
      rw [hV] at h1 h2
      have hlt' : ∀ x ∈ Pl j, x.block < W.heap.size := fun x hx => hlt x (List.mem_append_right _ (List.mem_flatMap.2 ⟨j, List.mem_range.2 (by omega), hx⟩))
      have hcap : c' ≤ maxLen := by
        rcases open_ints he hi ci h2 with ⟨hcs, _⟩ | ⟨a', len', cap', zs, hcs, _, _, hmx, _⟩
        · simp at hcs; omega
        · simp at hcs; omega
      rcases open_row he hi ci ⟨fu, h2⟩ hlt' with ⟨rfl, rfl, rfl, _⟩ | ⟨zs, hz, hl', _, hR, hw⟩
      · exact ⟨⟨none, 0, 0, []⟩, h1, Reads.none_, Nat.le_refl _, by simp [maxLen], by simp⟩
      · exact ⟨⟨A', n', c', zs.take n'⟩, h1, hR, hl', hcap, fun y hy => hw y (List.mem_of_mem_take hy)⟩
    obtain ⟨q, hq⟩ := choose_lt each
    refine ⟨(List.range n).map q, ⟨by simp, fun h0 => ⟨a, rfl, ?_, fun j u hu => ?_⟩⟩, fun x hx => ?_⟩
    · obtain ⟨b, off, spot⟩ := a
      have hspot : spot = none := by simpa [Addr.add] using World.cell?_spot (hq 0 h0).1
      subst hspot
      exact hlt (.cell b off) (List.mem_append_left _ (MemPlace.mem_row.2 ⟨0, by omega, by simp⟩))
    · rw [List.map_map, List.getElem?_map] at hu
      by_cases hj : j < n
      · rw [List.getElem?_range hj] at hu
        simp only [Option.map_some, Option.some.injEq] at hu
        rw [(hq j hj).1, ← hu]; rfl
      · rw [List.getElem?_eq_none (by simp; omega)] at hu; cases hu
    · obtain ⟨j, hj, rfl⟩ := List.mem_map.1 hx
      exact (hq j (List.mem_range.1 hj)).2
end Go.Proofs.YtcfpnnkohjochaaDoor
