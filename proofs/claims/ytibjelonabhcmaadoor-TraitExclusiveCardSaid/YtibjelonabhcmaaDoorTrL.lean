/- What is proved: contract of the document's Find. -/
import Derived.Test.YtibjelonabhcmaaDoorTrK
namespace Go.Proofs.YtibjelonabhcmaaDoor
open Go.RowKit
set_option linter.unusedVariables false
set_option linter.unusedSimpArgs false
def rfind : List Rel → Int → Option Rel
  | [], _ => none
  | x :: l, v => if x.i == v then some x else rfind l v
def trOf : Option Rel → Value
  | none => trV false false 0 0 0
  | some x => trV x.a x.e x.w x.t x.r
theorem ret_tr {a b : Value} {x y : Bool} (h : a = b) (h2 : x = y) : Ending.returned (.tuple #[a, .bool x]) = .returned (.tuple #[b, .bool y]) := by rw [h, h2]
theorem blk_cells5 {w : World} {g : Nat} {t : TypeId} {a b c d e : Value} (h : w.heap[g]? = some (.cells #[a, b, c, d, e] t)) :
    (w.cell? ⟨g, 0, none⟩ = some a ∧ w.cell? ⟨g, 1, none⟩ = some b ∧ w.cell? ⟨g, 2, none⟩ = some c ∧ w.cell? ⟨g, 3, none⟩ = some d ∧ w.cell? ⟨g, 4, none⟩ = some e) ∧
    (∀ i, w.frozen? ⟨g, i, none⟩ = false) := by
  have hb : Blk w g t #[a, b, c, d, e] := h
  exact ⟨⟨hb.cell 0, hb.cell 1, hb.cell 2, hb.cell 3, hb.cell 4⟩, fun i => hb.frozen i⟩
set_option maxRecDepth 100000 in
set_option maxHeartbeats 2000000 in
theorem rfind_any (A : Option Addr) (n c : Nat) (l : List Rel) (v : Int) (w : World) (hR : Reads w w.heap.size 6 A n (rels l)) (hn : n ≤ 65536) :
    Calls Tryd.prog 24 #[.slice A n c, .int .i64 v] w fun e w' => e = .returned (.tuple #[trOf (rfind l v), .bool (rfind l v).isSome]) ∧ Below w.heap.size w w' := by
  have hl : l.length = n := by have := hR.1; rw [rels_len] at this; omega
  have c31 : Tryd.prog.cellsOf 31 = 6 := by kernel_rfl
  go_enter Tryd.func24, Tryd.ntmps24
  go_wp2_with fail
  go_loopw [10] (fun i wr => ∃ k : Nat, k ≤ n ∧ i = .int .i64 k ∧ rfind l v = rfind (l.drop k) v ∧ wr.heap[w.heap.size]? = some (.cells #[.bool false, .bool false, .int .i64 0, .int .i64 0, .int .i64 0] 29) ∧ Below w.heap.size w wr)
    (fun i _ => n - (intOf i).toNat)
  case atStart => exact ⟨0, Nat.zero_le _, rfl, rfl, Array.getElem?_push_size, (Below.refl _ _).alloc (Nat.le_refl _) _⟩
  case round =>
    obtain ⟨k, hk, rfl, hq, h0, hb⟩ := hrel
    by_cases hlt : k < n
    · have e1 := List.getElem?_eq_getElem (l := l) (i := k) (by omega)
      generalize l[k]'(by omega) = x at e1
      have D1 := drop_cons e1
      rw [D1] at hq
      obtain ⟨b, off, rfl, hbl, g⟩ := rels_cells hR e1
      obtain ⟨g10, g11, g12, g13, g14, g15⟩ := g.below hb hbl
      cases ht : (x.i == v)
      · have HQ := Lib.hid (show rfind l v = rfind (l.drop (k + 1)) v from by rw [hq]; show (if (x.i == v) = true then _ else _) = _; rw [ht]; rfl)
        clear hq D1 e1 g hR
        go_wp2_with fail
        go_roundw
        case rel => exact ⟨k + 1, by omega, by go_num, HQ.out, (Below.heap_alloc wr _ _ (Array.getElem?_eq_some_iff.1 h0).1).trans h0, hb.alloc hb.size _⟩
        case measure => simp [intOf]; omega
      · have HQ := Lib.hid (show rfind l v = some x from by rw [hq]; show (if (x.i == v) = true then _ else _) = _; rw [ht]; rfl)
        have hs0 := (Array.getElem?_eq_some_iff.1 h0).1
        obtain ⟨⟨q0, q1, q2, q3, q4⟩, qf⟩ := blk_cells5 h0
        have qf0 := qf 0
        have qf1 := qf 1
        have qf2 := qf 2
        have qf3 := qf 3
        have qf4 := qf 4
        clear hq D1 e1 g hR qf h0
        go_wp2_with fail
        refine bodyPost_ret (v := .tuple #[.agg #[.bool x.a, .bool x.e, .int .i64 x.w, .int .i64 x.t, .int .i64 x.r], .bool true]) (by simp [results, Tryd.results24, go_sem, *]) rfl ⟨ret_tr (by rw [HQ.out]; rfl) (by rw [HQ.out]; rfl), ?_⟩
        refine Below.alloc ?_ (by simp <;> omega) _
        exact ((((hb.setCell (p := ⟨w.heap.size, 0, none⟩) (Nat.le_refl _) _).setCell (p := ⟨w.heap.size, 1, none⟩) (Nat.le_refl _) _).setCell (p := ⟨w.heap.size, 2, none⟩) (Nat.le_refl _) _).setCell (p := ⟨w.heap.size, 3, none⟩) (Nat.le_refl _) _).setCell (p := ⟨w.heap.size, 4, none⟩) (Nat.le_refl _) _
    · have HQ := Lib.hid (show rfind l v = none from by rw [hq, List.drop_of_length_le (by omega)]; rfl)
      have hs0 := (Array.getElem?_eq_some_iff.1 h0).1
      obtain ⟨⟨q0, q1, q2, q3, q4⟩, qf⟩ := blk_cells5 h0
      have qf0 := qf 0
      have qf1 := qf 1
      have qf2 := qf 2
      have qf3 := qf 3
      have qf4 := qf 4
      clear hq hR qf h0
      go_wp2_with fail
      refine bodyPost_ret (v := .tuple #[.agg #[.bool false, .bool false, .int .i64 0, .int .i64 0, .int .i64 0], .bool false]) (by simp [results, Tryd.results24, go_sem, *]) rfl ⟨ret_tr (by rw [HQ.out]; rfl) (by rw [HQ.out]; rfl), ?_⟩
      exact ((((hb.setCell (p := ⟨w.heap.size, 0, none⟩) (Nat.le_refl _) _).setCell (p := ⟨w.heap.size, 1, none⟩) (Nat.le_refl _) _).setCell (p := ⟨w.heap.size, 2, none⟩) (Nat.le_refl _) _).setCell (p := ⟨w.heap.size, 3, none⟩) (Nat.le_refl _) _).setCell (p := ⟨w.heap.size, 4, none⟩) (Nat.le_refl _) _
end Go.Proofs.YtibjelonabhcmaaDoor
