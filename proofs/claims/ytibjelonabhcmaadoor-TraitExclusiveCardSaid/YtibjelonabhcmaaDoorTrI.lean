/- What is proved: contracts of trait's New, the document's New, and few. -/
import Derived.Test.YtibjelonabhcmaaDoorTrH
namespace Go.Proofs.YtibjelonabhcmaaDoor
open Go.RowKit
set_option linter.unusedVariables false
set_option linter.unusedSimpArgs false
def firstL : List Rel := [⟨1, true, true, 0, 1, 2⟩, ⟨2, true, false, 0, 0, 2⟩]
/-- what the program's variable holds -/
def Env (w : World) : Prop := 0 < w.heap.size ∧ ∀ j u, (rels firstL)[j]? = some u → w.cell? ⟨0, j, none⟩ = some u
theorem Env.below {w w' : World} (h : Env w) (hb : Below w.heap.size w w') : Env w' :=
  ⟨Nat.lt_of_lt_of_le h.1 hb.size, fun j u hu => (hb.cell (p := ⟨0, j, none⟩) h.1).trans (h.2 j u hu)⟩
theorem Env.reads {w : World} (h : Env w) : Reads w w.heap.size 6 (some ⟨0, 0, none⟩) 2 (rels firstL) :=
  ⟨rfl, fun _ => ⟨⟨0, 0, none⟩, rfl, h.1, fun j u hu => by rw [add_none, Nat.zero_add]; exact h.2 j u hu⟩⟩
theorem rels_take (l : List Rel) (m : Nat) : rels (l.take m) = (rels l).take (m * 6) := by
  induction l generalizing m with
  | nil => simp [rels]
  | cons x l ih =>
    cases m with
    | zero => rw [Nat.zero_mul]; rfl
    | succ m =>
      show relC x ++ rels (l.take m) = (relC x ++ rels l).take ((m + 1) * 6)
      rw [ih, List.take_append]
      have e1 : (relC x).take ((m + 1) * 6) = relC x := List.take_of_length_le (by show 6 ≤ _; omega)
      have e2 : (m + 1) * 6 - (relC x).length = m * 6 := by show (m + 1) * 6 - 6 = _; omega
      rw [e1, e2]
theorem Reads.pre6 {w : World} {B n m : Nat} {A : Option Addr} {l : List Rel} (h : Reads w B 6 A n (rels l)) (hm : m ≤ n) : Reads w B 6 A m (rels (l.take m)) := by
  rw [rels_take]
  refine ⟨by rw [List.length_take, h.1]; omega, fun h0 => ?_⟩
  obtain ⟨ad, e, hb, hc⟩ := h.2 (by omega)
  refine ⟨ad, e, hb, fun j u hu => hc j u ?_⟩
  rw [List.getElem?_take] at hu
  split at hu
  · exact hu
  · cases hu
/-- a row of relations of the callee's own -/
def OwnRow (l : List Rel) (w : World) (e : Ending) (w' : World) : Prop := ∃ A c, e = .returned (.slice A l.length c) ∧ Reads w' w'.heap.size 6 A l.length (rels l) ∧ Below w.heap.size w w'
theorem tnew_any (w : World) (hE : Env w) : Calls Tryd.prog 14 #[] w (OwnRow firstL w) := by
  have hc := clone_rel (some ⟨0, 0, none⟩) 2 2 firstL w hE.reads (by omega)
  go_enter Tryd.func14, Tryd.ntmps14
  go_wp2_with fail
  refine hc.mono ?_
  rintro e w' ⟨A', c', ⟨rfl, hr⟩, hb⟩
  go_wp2_with fail
  go_ret
  exact ⟨A', c', rfl, hr, hb⟩
theorem lit_reads (w : World) (t : TypeId) (l : List Rel) {C : Array Value} (hC : C.toList = rels l) : Reads (w.alloc (.cells C t)) (w.alloc (.cells C t)).heap.size 6 (some ⟨w.heap.size, 0, none⟩) l.length (rels l) := by
  refine ⟨rels_len l, fun _ => ⟨⟨w.heap.size, 0, none⟩, rfl, ?_, fun j u hu => ?_⟩⟩
  · show w.heap.size < (w.heap.push _).size
    rw [Array.size_push]; omega
  · rw [add_none, Nat.zero_add]
    refine (World.cell?_alloc_mark w C t (0, 0) j).trans ?_
    rw [← Array.getElem?_toList, hC]; exact hu
theorem rnew_any (w : World) : Calls Tryd.prog 16 #[] w (OwnRow firstL w) := by
  go_enter Tryd.func16, Tryd.ntmps16
  go_wp2_with fail
  go_ret
  refine ⟨some ⟨w.heap.size, 0, none⟩, 2, rfl, lit_reads w _ firstL rfl, (Below.refl _ _).alloc (Nat.le_refl _) _⟩
theorem few_any (A : Option Addr) (n c : Nat) (l : List Rel) (w : World) (hR : Reads w w.heap.size 6 A n (rels l)) (hnc : n ≤ c) (hn : c ≤ 281474976710656) :
    Calls Tryd.prog 9 #[.slice A n c] w (OwnRow (l.take 201) w) := by
  have hl : l.length = n := by have := hR.1; rw [rels_len] at this; omega
  rcases Nat.lt_or_ge 201 n with h | h
  · have hlen : (l.take 201).length = 201 := by rw [List.length_take]; omega
    have hc := clone_rel A 201 c (l.take 201) w (hR.pre6 (by omega)) (by omega)
    clear hR
    unfold OwnRow
    rw [hlen]
    go_enter Tryd.func9, Tryd.ntmps9
    go_wp2_with fail
    refine hc.mono ?_
    rintro e w' ⟨A', c', ⟨rfl, hr⟩, hb⟩
    go_wp2_with fail
    go_ret
    exact ⟨A', c', rfl, hr, hb⟩
  · have e : l.take 201 = l := List.take_of_length_le (by omega)
    have hc := clone_rel A n c l w hR (by omega)
    rw [e]
    clear e hR
    unfold OwnRow
    rw [hl]
    go_enter Tryd.func9, Tryd.ntmps9
    go_wp2_with fail
    refine hc.mono ?_
    rintro e w' ⟨A', c', ⟨rfl, hr⟩, hb⟩
    go_wp2_with fail
    go_ret
    exact ⟨A', c', rfl, hr, hb⟩
end Go.Proofs.YtibjelonabhcmaaDoor
