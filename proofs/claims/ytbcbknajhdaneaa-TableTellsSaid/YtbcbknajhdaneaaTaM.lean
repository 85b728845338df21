/- What is proved: table's Same. -/
import Derived.Test.YtbcbknajhdaneaaTaL
namespace Go.Proofs.Ytbcbknajhdaneaa
open Go.RowKit
set_option linter.unusedVariables false
set_option linter.unusedSimpArgs false
/-- are tables one? -/
def tabQ (a b : Tab) : Bool := a.ty == b.ty && (colsQ a.F b.F && a.es == b.es)
/-- lengths that a walk can bear -/
def TabSm (t : Tab) : Prop := t.Tn ≤ 281474976710656 ∧ t.Cn ≤ 281474976710656 ∧ t.En ≤ 281474976710656 ∧ ∀ x ∈ t.F, x.n ≤ 281474976710656
set_option maxRecDepth 100000 in
set_option maxHeartbeats 4000000 in
theorem tsame_any (a b : Tab) (w : World) (ha : TabOk w w.heap.size a) (hb : TabOk w w.heap.size b) (sa : TabSm a) (sb : TabSm b) :
    Calls Try.prog 36 #[a.V, b.V] w fun e w' => e = .returned (.bool (tabQ a b)) ∧ Below w.heap.size w w' := by
  have c1 := fun (W : World) (h : Below w.heap.size w W) => equal_d a.TA a.Tn a.Tc a.ty b.TA b.Tn b.Tc b.ty W ((ha.ty.below h).more h.size) ((hb.ty.below h).more h.size) sa.1 sb.1
  have c3 := fun (W : World) (h : Below w.heap.size w W) => equal_d a.EA a.En a.Ec a.es b.EA b.En b.Ec b.es W ((ha.es.below h).more h.size) ((hb.es.below h).more h.size) sa.2.2.1 sb.2.2.1
  have c2 := fun (W : World) (h : Below w.heap.size w W) => ceqf_any a.CA a.Cn a.Cc a.F b.CA b.Cn b.Cc b.F W ((ha.cs.below h).more h.size) ((hb.cs.below h).more h.size) (fun x hx => ⟨((ha.csok x hx).keep h).more h.size, sa.2.2.2 x hx⟩) (fun x hx => ⟨((hb.csok x hx).keep h).more h.size, sb.2.2.2 x hx⟩) sa.2.1 sb.2.1
  unfold tabQ Tab.V
  generalize (a.ty == b.ty) = b1 at c1 ⊢
  generalize colsQ a.F b.F = b2 at c2 ⊢
  generalize (a.es == b.es) = b3 at c3 ⊢
  obtain ⟨TA, Tn, Tc, ty, CA, Cn, Cc, F, EA, En, Ec, es⟩ := a
  obtain ⟨TA', Tn', Tc', ty', CA', Cn', Cc', F', EA', En', Ec', es'⟩ := b
  simp only at c1 c2 c3 ⊢
  have hB := ((Below.refl w.heap.size w).alloc (Nat.le_refl _) (.cells #[.slice TA Tn Tc, .slice CA Cn Cc, .slice EA En Ec] 25)).alloc (by simp) (.cells #[.slice TA' Tn' Tc', .slice CA' Cn' Cc', .slice EA' En' Ec'] 25)
  have x1 := new_cell w 25 #[.slice TA Tn Tc, .slice CA Cn Cc, .slice EA En Ec] (k := 1) rfl
  have x2 := new_cell w 25 #[.slice TA Tn Tc, .slice CA Cn Cc, .slice EA En Ec] (k := 2) rfl
  have y1 := new_cell (w.alloc (.cells #[.slice TA Tn Tc, .slice CA Cn Cc, .slice EA En Ec] 25)) 25 #[.slice TA' Tn' Tc', .slice CA' Cn' Cc', .slice EA' En' Ec'] (k := 1) rfl
  have y2 := new_cell (w.alloc (.cells #[.slice TA Tn Tc, .slice CA Cn Cc, .slice EA En Ec] 25)) 25 #[.slice TA' Tn' Tc', .slice CA' Cn' Cc', .slice EA' En' Ec'] (k := 2) rfl
  obtain ⟨W0, hW0⟩ : ∃ W0, (w.alloc (.cells #[.slice TA Tn Tc, .slice CA Cn Cc, .slice EA En Ec] 25)).alloc (.cells #[.slice TA' Tn' Tc', .slice CA' Cn' Cc', .slice EA' En' Ec'] 25) = W0 := ⟨_, rfl⟩
  have z1 := (World.cell?_alloc_lt (w.alloc (.cells #[.slice TA Tn Tc, .slice CA Cn Cc, .slice EA En Ec] 25)) (.cells #[.slice TA' Tn' Tc', .slice CA' Cn' Cc', .slice EA' En' Ec'] 25) ⟨w.heap.size, 1, none⟩ (by simp)).trans x1
  have z2 := (World.cell?_alloc_lt (w.alloc (.cells #[.slice TA Tn Tc, .slice CA Cn Cc, .slice EA En Ec] 25)) (.cells #[.slice TA' Tn' Tc', .slice CA' Cn' Cc', .slice EA' En' Ec'] 25) ⟨w.heap.size, 2, none⟩ (by simp)).trans x2
  have hsz : W0.heap.size = w.heap.size + 1 + 1 := by rw [← hW0]; simp
  have hsz1 : (w.alloc (.cells #[.slice TA Tn Tc, .slice CA Cn Cc, .slice EA En Ec] 25)).heap.size = w.heap.size + 1 := by simp
  rw [hsz1] at y1 y2
  rw [hW0] at z1 z2 y1 y2 hB
  have Z1 := fun (W : World) (h : Below W0.heap.size W0 W) => cell_below' h z1 (by omega)
  have Z2 := fun (W : World) (h : Below W0.heap.size W0 W) => cell_below' h z2 (by omega)
  have Y1 := fun (W : World) (h : Below W0.heap.size W0 W) => cell_below' h y1 (by omega)
  have Y2 := fun (W : World) (h : Below W0.heap.size W0 W) => cell_below' h y2 (by omega)
  have h0 := Below.refl W0.heap.size W0
  clear ha hb sa sb x1 x2 y1 y2 z1 z2 hsz hsz1
  subst hW0
  cases b1
  · go_enter Try.func36, Try.ntmps36
    go_wp2_with (first
      | (go_at_call 41; ((with_reducible refine (c1 _ hB).mono ?_); rintro e w1 ⟨rfl, hb1⟩; have hB := hB.trans (hb1.mono hB.size); have h0 := h0.trans (hb1.mono h0.size); have q1 := Z1 _ h0; have q2 := Z2 _ h0; have r1 := Y1 _ h0; have r2 := Y2 _ h0))
      | fail)
    go_ret
    exact ⟨rfl, hB⟩
  · cases b2
    all_goals
      go_enter Try.func36, Try.ntmps36
      go_wp2_with (first
        | (go_at_call 41; first
           | ((with_reducible refine (c1 _ hB).mono ?_); rintro e w1 ⟨rfl, hb1⟩; have hB := hB.trans (hb1.mono hB.size); have h0 := h0.trans (hb1.mono h0.size); have q1 := Z1 _ h0; have q2 := Z2 _ h0; have r1 := Y1 _ h0; have r2 := Y2 _ h0)
           | ((with_reducible refine (c3 _ hB).mono ?_); rintro e w3 ⟨rfl, hb3⟩; have hB := hB.trans (hb3.mono hB.size)))
        | (go_at_call 89; ((with_reducible refine (c2 _ hB).mono ?_); rintro e w2 ⟨rfl, hb2⟩; have hB := hB.trans (hb2.mono hB.size); have h0 := h0.trans (hb2.mono h0.size); have q1 := Z1 _ h0; have q2 := Z2 _ h0; have r1 := Y1 _ h0; have r2 := Y2 _ h0))
        | fail)
      go_ret
      exact ⟨by simp, hB⟩
end Go.Proofs.Ytbcbknajhdaneaa
