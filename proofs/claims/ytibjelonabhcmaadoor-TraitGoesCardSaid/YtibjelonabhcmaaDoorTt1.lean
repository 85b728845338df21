/- What is proved: the law's TraitGoes returns true. -/
import Derived.Test.YtibjelonabhcmaaDoorTs4
import Derived.Test.YtibjelonabhcmaaDoorTs6
import Derived.Test.YtibjelonabhcmaaDoorTs9
namespace Go.Proofs.YtibjelonabhcmaaDoor
open Go.RowKit
set_option linter.unusedVariables false
set_option linter.unusedSimpArgs false
theorem trOf_ex (o : Option Rel) : ∃ y : Rel, trOf o = .agg #[.bool y.a, .bool y.e, .int .i64 y.w, .int .i64 y.t, .int .i64 y.r] := by
  cases o with
  | none => exact ⟨⟨0, false, false, 0, 0, 0⟩, rfl⟩
  | some x => exact ⟨x, rfl⟩
theorem gis_any (n : Int) (w : World) : Calls Tryd.prog 25 #[.int .i64 n, .int .i64 1, .int .i64 1048578] w fun e w' => e = .returned (.bool (idxB n)) ∧ w = w' := by
  have := is_any n 1 1048578 w
  rw [inn1] at this
  exact this
theorem nil_eq (A : Option Addr) (c : Nat) (w : World) : Calls Tryd.prog 15 #[.slice A 0 c, .slice none 0 0] w fun e w' => e = .returned (.bool true) ∧ Below w.heap.size w w' :=
  equal_rel A 0 c [] none 0 0 [] w ⟨rfl, fun h => absurd h (by omega)⟩ ⟨rfl, fun h => absurd h (by omega)⟩ (by omega) (by omega)
theorem same_eq {A : Option Addr} {n c : Nat} {l : List Rel} {A2 : Option Addr} {c2 : Nat} {w : World} (hR : Reads w w.heap.size 6 A n (rels l)) (hR2 : Reads w w.heap.size 6 A2 n (rels l)) (hn : n ≤ 65536) :
    Calls Tryd.prog 15 #[.slice A n c, .slice A2 n c2] w fun e w' => e = .returned (.bool true) ∧ Below w.heap.size w w' := by
  have := equal_rel A n c l A2 n c2 l w hR hR2 hn hn
  rw [relseq_self] at this
  exact this
/-- a row of relations of the call's own -/
def RowB (l : List Rel) (n : Nat) (w : World) (e : Ending) (w' : World) : Prop := ∃ A c, e = .returned (.slice A n c) ∧ Reads w' w'.heap.size 6 A n (rels l) ∧ Below w.heap.size w w'
theorem OwnR.row {l : List Rel} {n : Nat} {w w' : World} {e : Ending} (h : OwnR l w e w') (hn : l.length = n) : RowB l n w e w' := by
  obtain ⟨v, rfl, ho, hb⟩ := h
  obtain ⟨A, c, rfl, _, _⟩ := own_cap ho
  subst hn
  exact ⟨A, c, rfl, Reads.of_own ho, hb⟩
/-- a row of its own whose first cells are numbers, and an error -/
def RowG (l : List Rel) (n : Nat) (w : World) (e : Ending) (w' : World) : Prop := ∃ g c cur, e = .returned (.tuple #[.slice (some ⟨g, 0, none⟩) n c, .int .i64 0]) ∧ Reads w' w'.heap.size 6 (some ⟨g, 0, none⟩) n (rels l) ∧
  w.heap.size ≤ g ∧ Blk w' g 31 cur ∧ (∀ j, j < n → ∃ x : Int, cur[j * 6]? = some (.int .i64 x)) ∧ Below w.heap.size w w'
theorem OwnE.rowG {l : List Rel} {n : Nat} {w w' : World} {e : Ending} (h : OwnE l 0 w e w') (hn : l.length = n) (h0 : 0 < n) : RowG l n w e w' := by
  obtain ⟨v, rfl, ho, hb⟩ := h
  obtain ⟨g, c, cur, rfl, hg, hbk, _, _, ht⟩ := own_nil_or ho (by omega)
  subst hn
  refine ⟨g, c, cur, rfl, Reads.of_own ho, hg, hbk, fun j hj => ?_, hb⟩
  have e1 := List.getElem?_eq_getElem (l := l) (i := j) hj
  have h1 := rels_at l j _ e1 0 (by omega)
  refine ⟨(l[j]).i, ?_⟩
  rw [← ht, List.getElem?_take, if_pos (by omega), Array.getElem?_toList] at h1
  exact h1
theorem run_neq_tr (w : World) (x : Rel) : (binOp .neq 29 (.agg #[.bool x.a, .bool x.e, .int .i64 x.w, .int .i64 x.t, .int .i64 x.r]) (.agg #[.bool x.a, .bool x.e, .int .i64 x.w, .int .i64 x.t, .int .i64 x.r])).run Tryd.prog w = .ok (.bool false) w := by
  have h := run_treq w 9998 x x
  rw [treq_self] at h
  rw [run_neq_struct, h]; rfl
theorem nil_eq2 {A : Option Addr} {c B : Nat} {W w : World} (h : Below B W w) (hB : B ≤ w.heap.size) : Calls Tryd.prog 15 #[.slice A 0 c, .slice none 0 0] w fun e w' => e = .returned (.bool true) ∧ Below B W w' :=
  (nil_eq A c w).mono fun e w' ⟨h1, h2⟩ => ⟨h1, h.trans (h2.mono hB)⟩
def zr : Rel := ⟨0, false, false, 0, 0, 0⟩
/-- five cells stored over a block -/
def st5 (W : World) (g : Nat) (y : Rel) : World := ((((W.setCell ⟨g, 0, none⟩ (.bool y.a)).setCell ⟨g, 1, none⟩ (.bool y.e)).setCell ⟨g, 2, none⟩ (.int .i64 y.w)).setCell ⟨g, 3, none⟩ (.int .i64 y.t)).setCell ⟨g, 4, none⟩ (.int .i64 y.r)
theorem st5_blk {W : World} {g : Nat} {t : TypeId} {a b c d e : Value} (h : Blk W g t #[a, b, c, d, e]) (y : Rel) : Blk (st5 W g y) g t #[.bool y.a, .bool y.e, .int .i64 y.w, .int .i64 y.t, .int .i64 y.r] :=
  ((((h.set_ 0 (.bool y.a)).set_ 1 (.bool y.e)).set_ 2 (.int .i64 y.w)).set_ 3 (.int .i64 y.t)).set_ 4 (.int .i64 y.r)
theorem st5_far {W : World} {g g' : Nat} {t : TypeId} {cs : Array Value} (h : Blk W g' t cs) (hne : g' ≠ g) (y : Rel) : Blk (st5 W g y) g' t cs :=
  ((((h.far (p := ⟨g, 0, none⟩) hne _).far (p := ⟨g, 1, none⟩) hne _).far (p := ⟨g, 2, none⟩) hne _).far (p := ⟨g, 3, none⟩) hne _).far (p := ⟨g, 4, none⟩) hne _
theorem st5_below {B : Nat} {a W : World} {g : Nat} (h : Below B a W) (hg : B ≤ g) (y : Rel) : Below B a (st5 W g y) :=
  ((((h.setCell (p := ⟨g, 0, none⟩) hg _).setCell (p := ⟨g, 1, none⟩) hg _).setCell (p := ⟨g, 2, none⟩) hg _).setCell (p := ⟨g, 3, none⟩) hg _).setCell (p := ⟨g, 4, none⟩) hg _
theorem st5_size (W : World) (g : Nat) (y : Rel) : (st5 W g y).heap.size = W.heap.size := by simp [st5]
theorem blk5 {W : World} {g : Nat} {t : TypeId} {a b c d e : Value} (h : Blk W g t #[a, b, c, d, e]) : W.cell? ⟨g, 0, none⟩ = some a ∧ W.cell? ⟨g, 1, none⟩ = some b ∧ W.cell? ⟨g, 2, none⟩ = some c ∧ W.cell? ⟨g, 3, none⟩ = some d ∧ W.cell? ⟨g, 4, none⟩ = some e :=
  ⟨h.cell 0, h.cell 1, h.cell 2, h.cell 3, h.cell 4⟩
end Go.Proofs.YtibjelonabhcmaaDoor
