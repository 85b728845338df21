/- What is proved: the contract of the law's own. the contract of the law's spoil: only memory of the table's own is written. -/
import Derived.Test.YtbcbknajhdaneaaVTd7
import Derived.Test.YtbcbknajhdaneaaVOg
namespace Go.Proofs.Ytbcbknajhdaneaa
open Go.RowKit
set_option linter.unusedVariables false
set_option linter.unusedSimpArgs false
/-- a table of the call's own -/
def OwnT (p : PT) (w : World) (e : Ending) (w' : World) : Prop := ∃ t : Tab, e = .returned t.V ∧ t.p = p ∧ TabFresh w' w.heap.size t ∧ Below w.heap.size w w'
theorem cut_q {w : World} {A : Option Addr} {n : Nat} {l : List Int} (m : Nat) (h : Reads w w.heap.size 1 A n (ids l)) : ∃ q, (m < n ∧ q = m ∨ n ≤ m ∧ q = n) ∧ Reads w w.heap.size 1 A q (ids (l.take m)) ∧ q ≤ m ∧ (l.take m).length = q := by
  have hl : l.length = n := by have := h.1; rw [ids_len] at this; omega
  rcases Nat.lt_or_ge m n with h1 | h1
  · exact ⟨m, .inl ⟨h1, rfl⟩, h.pre1 (by omega), Nat.le_refl _, by rw [List.length_take]; omega⟩
  · refine ⟨n, .inr ⟨h1, rfl⟩, ?_, h1, by rw [List.length_take]; omega⟩
    rw [List.take_of_length_le (by omega)]; exact h
theorem own_lt_ne {w : World} {g n base size : Nat} {e : TypeId} {v : Value} {xs : List Value} (h : w.ownsRow base e size v n xs) (hg : w.heap.size ≤ g) : v.ownBlock ≠ some g := by
  rcases h.2 with ⟨rfl, _⟩ | ⟨g', cap, cur, rfl, _, hh, _⟩
  · simp [Value.ownBlock]
  · simp [Value.ownBlock]
    have := (Array.getElem?_eq_some_iff.1 hh).1
    omega
theorem own_set3 {w : World} {g n : Nat} {e t : TypeId} {base size : Nat} {v : Value} {xs : List Value} {cs : Array Value} (h : w.ownsRow base e size v n xs) (hk : Blk w g t cs) (hne : e ≠ t) (a b c : Value) :
    (((w.setCell ⟨g, 0, none⟩ a).setCell ⟨g, 1, none⟩ b).setCell ⟨g, 2, none⟩ c).ownsRow base e size v n xs := h.kept (grown_set3 _ _ _ _ _) (.inr (own_blk_ne h hk hne))
theorem own_set1 {w : World} {g i n : Nat} {e t : TypeId} {base size : Nat} {v : Value} {xs : List Value} {cs : Array Value} (h : w.ownsRow base e size v n xs) (hk : Blk w g t cs) (hne : e ≠ t) (a : Value) :
    (w.setCell ⟨g, i, none⟩ a).ownsRow base e size v n xs := h.kept (grown_set1 _ _ _ _) (.inr (own_blk_ne h hk hne))
end Go.Proofs.Ytbcbknajhdaneaa
namespace Go.Proofs.Ytbcbknajhdaneaa
open Go.RowKit
set_option linter.unusedVariables false
set_option linter.unusedSimpArgs false
theorem IntS.cell {w : World} {base n : Nat} {e : TypeId} {A : Option Addr} (h : IntS w base e A n) {j : Nat} (hj : j < n) :
    ∃ g x, A = some ⟨g, 0, none⟩ ∧ base ≤ g ∧ w.cell? ⟨g, j, none⟩ = some (.int .u64 x) ∧ w.frozen? ⟨g, j, none⟩ = false ∧ Word x ∧ ∃ cur, w.heap[g]? = some (.cells cur e (0, 0)) := by
  obtain ⟨g, cur, rfl, h1, h2, h3⟩ := h (by omega)
  obtain ⟨x, hx, hw⟩ := h3 j hj
  refine ⟨g, x, rfl, h1, ?_, ?_, hw, cur, h2⟩
  · rw [cell_of_row w g j cur e (0, 0) h2]; exact hx
  · simp [World.frozen?, h2]
theorem intS_set {w : World} {base n g j : Nat} {e e2 : TypeId} {A : Option Addr} {cur : Array Value} {y : Int} (h : IntS w base e A n) (hg : w.heap[g]? = some (.cells cur e2 (0, 0))) (hy : Word y) : IntS (w.setCell ⟨g, j, none⟩ (.int .u64 y)) base e A n := fun h0 => by
  obtain ⟨g', cur', rfl, h1, h2, h3⟩ := h h0
  by_cases hgg : g' = g
  · subst hgg
    refine ⟨g', cur'.setIfInBounds j (.int .u64 y), rfl, h1, by simp [World.setCell, Array.getElem?_modify, h2], fun i hi => ?_⟩
    rw [Array.getElem?_setIfInBounds]
    split
    · split
      · exact ⟨y, rfl, hy⟩
      · rename_i hij hlt
        subst hij
        obtain ⟨x, hx, _⟩ := h3 _ hi
        exact absurd (Array.getElem?_eq_some_iff.1 hx).1 hlt
    · exact h3 i hi
  · exact ⟨g', cur', rfl, h1, (Below.heap_setCell _ _ _ _ (by simpa using hgg)).trans h2, h3⟩
structure SpI (t : Tab) (base tb : Nat) (w : World) : Prop where
  box : Blk w tb 25 #[.slice t.TA t.Tn t.Tc, .slice t.CA t.Cn t.Cc, .slice t.EA t.En t.Ec]
  cs : w.ownsRow base 68 3 (.slice t.CA t.Cn t.Cc) t.Cn (cols t.F)
  ty : IntS w base 27 t.TA t.Tn
  es : IntS w base 27 t.EA t.En
  csi : ∀ x ∈ t.F, IntS w base 26 x.A x.n
theorem SpI.below {t : Tab} {base tb : Nat} {w w' : World} (h : SpI t base tb w) (hb : Below w.heap.size w w') : SpI t base tb w' :=
  ⟨blk_below h.box hb, own_below h.cs hb, h.ty.below hb, h.es.below hb, fun x hx => (h.csi x hx).below hb⟩
theorem blk_far_of {w : World} {g g2 j : Nat} {t e : TypeId} {cs cur : Array Value} (h : Blk w g2 t cs) (hg : w.heap[g]? = some (.cells cur e (0, 0))) (hne : e ≠ t) (v : Value) : Blk (w.setCell ⟨g, j, none⟩ v) g2 t cs :=
  h.far (p := ⟨g, j, none⟩) (fun e9 => by
    have e9 : g2 = g := e9
    subst e9
    unfold Blk at h
    rw [h] at hg
    injection hg with hg
    injection hg with _ h7
    exact hne h7.symm) v
theorem own_far_of {w : World} {g j n base size : Nat} {e e2 : TypeId} {v : Value} {xs : List Value} {cur : Array Value} (h : w.ownsRow base e size v n xs) (hg : w.heap[g]? = some (.cells cur e2 (0, 0))) (hne : e ≠ e2) (y : Value) : (w.setCell ⟨g, j, none⟩ y).ownsRow base e size v n xs :=
  h.kept (grown_set1 _ _ _ _) (.inr (own_blk_ne h (show Blk w g e2 cur from hg) hne))
theorem SpI.set {t : Tab} {base tb g j : Nat} {w : World} {e : TypeId} {cur : Array Value} {y : Int} (h : SpI t base tb w) (hg : w.heap[g]? = some (.cells cur e (0, 0))) (he : e ≠ 25 ∧ e ≠ 68) (hy : Word y) : SpI t base tb (w.setCell ⟨g, j, none⟩ (.int .u64 y)) :=
  ⟨blk_far_of h.box hg he.1 _, own_far_of h.cs hg (Ne.symm he.2) _, intS_set h.ty hg hy, intS_set h.es hg hy, fun x hx => intS_set (h.csi x hx) hg hy⟩
end Go.Proofs.Ytbcbknajhdaneaa
