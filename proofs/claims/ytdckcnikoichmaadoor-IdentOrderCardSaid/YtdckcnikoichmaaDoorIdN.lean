/- What is proved: IdentOrder returns true. -/
import Derived.Test.YtdckcnikoichmaaDoorIdM
namespace Go.Proofs.YtdckcnikoichmaaDoor
open Go.RowKit
set_option linter.unusedVariables false
set_option linter.unusedSimpArgs false
def SameFacts (a b c d x y : Int) (eq : Bool) : Prop :=
    (decide (a < c) = true ∧ decide (x < y) = true ∧ eq = false) ∨
    (decide (a < c) = false ∧ (a == c) = true ∧ decide (b < d) = true ∧ decide (x < y) = true ∧ eq = false) ∨
    (decide (a < c) = false ∧ (a == c) = true ∧ decide (b < d) = false ∧ decide (x < y) = false ∧ eq = true) ∨
    (decide (a < c) = false ∧ (a == c) = true ∧ decide (b < d) = false ∧ decide (x < y) = false ∧ eq = false) ∨
    (decide (a < c) = false ∧ (a == c) = false ∧ decide (x < y) = false ∧ eq = false)
set_option maxRecDepth 100000 in
set_option maxHeartbeats 16000000 in
theorem ord_low (x y k : Int) (a b c d : Int) (tx ty : List UInt8) (w : World) (hE : Env w) (hbe : Below w.heap.size w w) (cX : KC x k) (cY : KC y k) (tX : TC x tx) (tY : TC y ty) (pX : PC x b a) (pY : PC y d c)
    (hk : k = 1 ∨ k = 2) (ht : (tx == ty) = (x == y)) (h : SameFacts a b c d x y (x == y)) : OrdSaid x y w := by
  unfold OrdSaid
  rcases h with ⟨h1, h2, h3⟩ | ⟨h1, h2, h3, h4, h5⟩ | ⟨h1, h2, h3, h4, h5⟩ | ⟨h1, h2, h3, h4, h5⟩ | ⟨h1, h2, h3, h4⟩
  all_goals
    first | rw [h5] at ht | rw [h4] at ht | rw [h3] at ht
    rcases hk with rfl | rfl
    all_goals
      go_enter Tryd.func7, Tryd.ntmps7
      go_wp2_with (first
        | (go_at_call 8; refine (wakes_any _ (hE.below hbe)).mono ?_; rintro e w' ⟨rfl, hb1⟩; have hbe := hbe_tr hbe hb1)
        | (go_at_call 18; with_reducible refine (cX _).mono ?_; rintro e w' ⟨rfl, hb1⟩; have hbe := hbe_tr hbe hb1)
        | (go_at_call 18; with_reducible refine (cY _).mono ?_; rintro e w' ⟨rfl, hb1⟩; have hbe := hbe_tr hbe hb1)
        | (go_at_call 16; with_reducible refine (tX _ (hE.below hbe)).mono ?_; rintro e w' ⟨rfl, hb1⟩; have hbe := hbe_tr hbe hb1)
        | (go_at_call 16; with_reducible refine (tY _ (hE.below hbe)).mono ?_; rintro e w' ⟨rfl, hb1⟩; have hbe := hbe_tr hbe hb1)
        | (go_at_call 14; with_reducible refine (pX _).mono ?_; rintro e w' ⟨rfl, hb1⟩; have hbe := hbe_tr hbe hb1)
        | (go_at_call 14; with_reducible refine (pY _).mono ?_; rintro e w' ⟨rfl, hb1⟩; have hbe := hbe_tr hbe hb1)
        | fail)
      go_ret
      exact ⟨rfl, hbe⟩
set_option maxRecDepth 100000 in
set_option maxHeartbeats 16000000 in
theorem ord_high (x y kx ky : Int) (a b c d : Int) (tx ty : List UInt8) (w : World) (hE : Env w) (hbe : Below w.heap.size w w) (cX : KC x kx) (cY : KC y ky) (tX : TC x tx) (tY : TC y ty) (pX : PC x a b) (pY : PC y c d)
    (hk : (kx = 3 ∧ ky = 3) ∨ (kx = 3 ∧ ky = 4) ∨ (kx = 4 ∧ ky = 3) ∨ (kx = 4 ∧ ky = 4)) (ht : (tx == ty) = (x == y)) (h : SameFacts a b c d x y (x == y)) : OrdSaid x y w := by
  unfold OrdSaid
  rcases h with ⟨h1, h2, h3⟩ | ⟨h1, h2, h3, h4, h5⟩ | ⟨h1, h2, h3, h4, h5⟩ | ⟨h1, h2, h3, h4, h5⟩ | ⟨h1, h2, h3, h4⟩
  all_goals
    first | rw [h5] at ht | rw [h4] at ht | rw [h3] at ht
    rcases hk with ⟨rfl, rfl⟩ | ⟨rfl, rfl⟩ | ⟨rfl, rfl⟩ | ⟨rfl, rfl⟩
    all_goals
      go_enter Tryd.func7, Tryd.ntmps7
      go_wp2_with (first
        | (go_at_call 8; refine (wakes_any _ (hE.below hbe)).mono ?_; rintro e w' ⟨rfl, hb1⟩; have hbe := hbe_tr hbe hb1)
        | (go_at_call 18; with_reducible refine (cX _).mono ?_; rintro e w' ⟨rfl, hb1⟩; have hbe := hbe_tr hbe hb1)
        | (go_at_call 18; with_reducible refine (cY _).mono ?_; rintro e w' ⟨rfl, hb1⟩; have hbe := hbe_tr hbe hb1)
        | (go_at_call 16; with_reducible refine (tX _ (hE.below hbe)).mono ?_; rintro e w' ⟨rfl, hb1⟩; have hbe := hbe_tr hbe hb1)
        | (go_at_call 16; with_reducible refine (tY _ (hE.below hbe)).mono ?_; rintro e w' ⟨rfl, hb1⟩; have hbe := hbe_tr hbe hb1)
        | (go_at_call 14; with_reducible refine (pX _).mono ?_; rintro e w' ⟨rfl, hb1⟩; have hbe := hbe_tr hbe hb1)
        | (go_at_call 14; with_reducible refine (pY _).mono ?_; rintro e w' ⟨rfl, hb1⟩; have hbe := hbe_tr hbe hb1)
        | fail)
      go_ret
      exact ⟨rfl, hbe⟩
end Go.Proofs.YtdckcnikoichmaaDoor
