/- What is proved: how an argument that is a slice of relations, or a relation, reads. -/
import Derived.Test.YtibjelonabhcmaaDoorTrI
import Derived.Deep.Slices
import Derived.Deep.SlicePairs
import Derived.OpenShut
namespace Go.Proofs.YtibjelonabhcmaaDoor
open Go.RowKit Go.Deep Go.ChangeShapes Go.WideShapes
set_option linter.unusedVariables false
/-- a relation's numbers are int64s -/
def RelWf (x : Rel) : Prop := (Lit.int .i64 x.i).wf = true ∧ (Lit.int .i64 x.w).wf = true ∧ (Lit.int .i64 x.t).wf = true ∧ (Lit.int .i64 x.r).wf = true
def relD {H : Type} (x : Rel) : DataW H := .agg [.lit (.int .i64 x.i), .agg [.lit (.bool x.a), .lit (.bool x.e), .lit (.int .i64 x.w), .lit (.int .i64 x.t), .lit (.int .i64 x.r)]]
theorem trod_traits {H : Type} {enc : TypeId × Value → H} {W : World} {base : Nat} {sp : Nat → Bool} {held : Bool} {fuel : Nat} {cs : List Value} {x : DataW H × List MemPlace}
    (h : DataW.trod enc Tryd.prog W base sp held fuel 29 cs = some x) :
    ∃ (a e : Bool) (w t r : Int), cs = [.bool a, .bool e, .int .i64 w, .int .i64 t, .int .i64 r] ∧ x.1 = .agg [.lit (.bool a), .lit (.bool e), .lit (.int .i64 w), .lit (.int .i64 t), .lit (.int .i64 r)] ∧ (Lit.int .i64 w).wf = true ∧ (Lit.int .i64 t).wf = true ∧ (Lit.int .i64 r).wf = true := by
  obtain ⟨xs, n, rfl, hx, hlen, hxl, hf⟩ := DataW.trod_struct Tryd.underlying29 h
  have ct : Tryd.prog.cellsOf 29 = 5 := by kernel_rfl
  have c3 : Tryd.prog.cellsOf 3 = 1 := by kernel_rfl
  have c4 : Tryd.prog.cellsOf 4 = 1 := by kernel_rfl
  rw [ct] at hlen
  match xs, hxl, cs, hlen with
  | [y0, y1, y2, y3, y4], _, [v0, v1, v2, v3, v4], _ =>
    have g0 := hf 0 _ rfl
    have g1 := hf 1 _ rfl
    have g2 := hf 2 _ rfl
    have g3 := hf 3 _ rfl
    have g4 := hf 4 _ rfl
    simp [c3, c4] at g0 g1 g2 g3 g4
    obtain ⟨b0, e0, d0⟩ := DataW.trod_bool Tryd.underlying4 g0
    obtain ⟨b1, e1, d1⟩ := DataW.trod_bool Tryd.underlying4 g1
    obtain ⟨z2, e2, d2, w2⟩ := DataW.trod_int Tryd.underlying3 g2
    obtain ⟨z3, e3, d3, w3⟩ := DataW.trod_int Tryd.underlying3 g3
    obtain ⟨z4, e4, d4, w4⟩ := DataW.trod_int Tryd.underlying3 g4
    simp only [List.cons.injEq, and_true] at e0 e1 e2 e3 e4
    subst e0 e1 e2 e3 e4 d0 d1 d2 d3 d4
    exact ⟨b0, b1, z2, z3, z4, rfl, by rw [hx] <;> rfl, w2, w3, w4⟩
theorem trod_rel {H : Type} {enc : TypeId × Value → H} {W : World} {base : Nat} {sp : Nat → Bool} {held : Bool} {fuel : Nat} {cs : List Value} {x : DataW H × List MemPlace}
    (h : DataW.trod enc Tryd.prog W base sp held fuel 31 cs = some x) : ∃ r : Rel, cs = relC r ∧ x.1 = relD r ∧ RelWf r := by
  obtain ⟨xs, n, rfl, hx, hlen, hxl, hf⟩ := DataW.trod_struct Tryd.underlying31 h
  have ct : Tryd.prog.cellsOf 31 = 6 := by kernel_rfl
  have c3 : Tryd.prog.cellsOf 3 = 1 := by kernel_rfl
  have c5 : Tryd.prog.cellsOf 29 = 5 := by kernel_rfl
  rw [ct] at hlen
  match xs, hxl, cs, hlen with
  | [y0, y1], _, [v0, v1, v2, v3, v4, v5], _ =>
    have g0 := hf 0 _ rfl
    have g1 := hf 1 _ rfl
    simp [c3, c5] at g0 g1
    obtain ⟨z0, e0, d0, w0⟩ := DataW.trod_int Tryd.underlying3 g0
    obtain ⟨a, e, w, t, r, e1, d1, w2, w3, w4⟩ := trod_traits g1
    simp only [List.cons.injEq, and_true] at e0 e1
    obtain ⟨rfl, rfl, rfl, rfl, rfl⟩ := e1
    subst e0 d0
    exact ⟨⟨z0, a, e, w, t, r⟩, rfl, by rw [hx]; show DataW.agg [_, y1.1] = _; rw [d1]; rfl, w0, w2, w3, w4⟩
theorem reads_each {W : World} {B n : Nat} {a : Addr} (hb : 0 < n → a.block < B) (F : Nat → Rel) (h : ∀ k, k < n → ∀ i, i < 6 → W.cell? (a.add (k * 6 + i)) = (relC (F k))[i]?) :
    Reads W B 6 (some a) n (rels ((List.range n).map F)) := by
  refine ⟨by rw [rels_len, List.length_map, List.length_range], fun h0 => ⟨a, rfl, hb h0, fun j u hu => ?_⟩⟩
  have hj : j < n * 6 := by
    have := (List.getElem?_eq_some_iff.1 hu).1
    rw [rels_len, List.length_map, List.length_range] at this
    exact this
  have e : j = (j / 6) * 6 + j % 6 := by omega
  have hk : j / 6 < n := by omega
  have h2 := rels_at ((List.range n).map F) (j / 6) (F (j / 6)) (by rw [List.getElem?_map, List.getElem?_range hk]; rfl) (j % 6) (by omega)
  have h3 := h (j / 6) hk (j % 6) (by omega)
  rw [← e] at h2 h3
  rw [h3, ← h2, hu]
theorem choose_rel {n : Nat} {Q : Nat → Rel → Prop} (h : ∀ j, j < n → ∃ x, Q j x) : ∃ F : Nat → Rel, ∀ j, j < n → Q j (F j) := by
  classical
  refine ⟨fun j => if hj : j < n then Classical.choose (h j hj) else ⟨0, false, false, 0, 0, 0⟩, fun j hj => ?_⟩
  simp only [dif_pos hj]
  exact Classical.choose_spec (h j hj)
theorem open_rels {H : Type} {enc : TypeId × Value → H} {W : World} {A : Option Addr} {n c : Nat} {d : DataW H} {ps : List MemPlace}
    (h : DataW.Trod enc Tryd.prog W 0 (fun _ => true) true 22 (.slice A n c) d ps) (hlt : ∀ x ∈ ps, x.block < W.heap.size) :
    (A = none ∧ n = 0 ∧ c = 0) ∨ ∃ l : List Rel, n ≤ c ∧ (∃ es sp, d = .slice es sp ∧ es.length + sp.length = c) ∧ Reads W W.heap.size 6 A n (rels l) ∧ ∀ x ∈ l, RelWf x := by
  obtain ⟨fuel, hf⟩ := h
  have ct : Tryd.prog.cellsOf 31 = 6 := by kernel_rfl
  rcases open_slice Tryd.underlying22 hf with ⟨h0, _⟩ | ⟨a, len, cap, m, k, D, Pl, hcs, hb, hl, hm, hmm, hxx, hx⟩
  · simp [Value.cells] at h0
    exact .inl h0
  · simp [Value.cells] at hcs
    obtain ⟨rfl, rfl, rfl⟩ := hcs
    simp only [Prod.mk.injEq] at hxx
    obtain ⟨hd, hps⟩ := hxx
    rw [ct] at hps
    simp only [if_true] at hmm
    subst hmm
    right
    have each : ∀ j, j < m → ∃ r : Rel, (∀ i, i < 6 → W.cell? (a.add (j * 6 + i)) = (relC r)[i]?) ∧ RelWf r := by
      intro j hj
      obtain ⟨cs', h1, h2⟩ := hx j hj
      rw [ct] at h1
      obtain ⟨_, hlen, hcell⟩ := World.cells?_some h1
      obtain ⟨r, rfl, _, hw⟩ := trod_rel h2
      refine ⟨r, fun i hi => ?_, hw⟩
      have := hcell i hi
      rw [Go.Deep.add_add] at this
      exact this
    obtain ⟨F, hF⟩ := choose_rel each
    refine ⟨(List.range n).map F, hl, ⟨_, _, hd, by rw [List.length_map, List.length_map, List.length_range, List.length_range]; omega⟩, reads_each (fun h0 => ?_) F fun k hk => (hF k (by omega)).1, fun x hx => ?_⟩
    · obtain ⟨b, off, spot⟩ := a
      have hs := (hF 0 (by omega)).1 0 (by omega)
      have hspot : spot = none := by simpa [Addr.add] using World.cell?_spot (v := .int .i64 (F 0).i) hs
      subst hspot
      exact hlt (.cell b off) (by rw [hps]; exact List.mem_append_left _ (MemPlace.mem_row.2 ⟨0, by omega, by simp⟩))
    · obtain ⟨k, hk, rfl⟩ := List.mem_map.1 hx
      exact (hF k (by have := List.mem_range.1 hk; omega)).2
end Go.Proofs.YtibjelonabhcmaaDoor
