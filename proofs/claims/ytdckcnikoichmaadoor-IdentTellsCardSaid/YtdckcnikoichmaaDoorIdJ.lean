/- What is proved: the contract of wakes. -/
import Derived.Test.YtdckcnikoichmaaDoorIdI
import Derived.KernelRfl
namespace Go.Proofs.YtdckcnikoichmaaDoor
open Go.RowKit
set_option linter.unusedVariables false
set_option linter.unusedSimpArgs false
theorem wk1 : entV 5 2 = 8589934597 ∧ entE 5 2 = 0 := by decide +kernel
theorem wk2 : paiV 2 7 = 9223372045444710407 ∧ paiE 2 7 = 0 := by decide +kernel
theorem wk3 : rdV [112, 50, 58, 42] = 9223372045444710400 ∧ rdE [112, 50, 58, 42] = 0 := by decide +kernel
theorem wk4 : txt 9223372045444710407 = [112, 50, 58, 55] ∧ txE 9223372045444710407 = 0 := by decide +kernel
theorem wk5 : takes 9223372045444710400 9223372045444710407 = true ∧ kd 9223372045444710400 = 4 := by decide +kernel
theorem wakes_any (w : World) (hE : Env w) : Calls Tryd.prog 8 #[] w fun e w' => e = .returned (.bool true) ∧ Below w.heap.size w w' := by
  have hbe := Below.refl w.heap.size w
  have c1 := entity_any 5 2
  rw [wk1.1, wk1.2] at c1
  have c2 := pair_any 2 7
  rw [wk2.1, wk2.2] at c2
  have c3 := fun w hE => read_any [112, 50, 58, 42] w hE (by decide)
  rw [wk3.1, wk3.2] at c3
  have c4 := text_any 9223372045444710407 ⟨by decide, by decide⟩
  rw [wk4.1, wk4.2] at c4
  have c5 := takes_any 9223372045444710400 9223372045444710407 ⟨by decide, by decide⟩ ⟨by decide, by decide⟩
  rw [wk5.1] at c5
  have c6 := kind_any 9223372045444710400 ⟨by decide, by decide⟩
  rw [wk5.2] at c6
  go_enter Tryd.func8, Tryd.ntmps8
  go_wp2_with (first
    | (go_at_call 9; refine (c1 _).mono ?_; rintro e w' ⟨rfl, hb1⟩; have hbe := hbe_tr hbe hb1)
    | (go_at_call 11; refine (c2 _).mono ?_; rintro e w' ⟨rfl, hb1⟩; have hbe := hbe_tr hbe hb1)
    | (go_at_call 22; refine (c3 _ (hE.below hbe)).mono ?_; rintro e w' ⟨rfl, hb1⟩; have hbe := hbe_tr hbe hb1)
    | (go_at_call 16; refine (c4 _ (hE.below hbe)).mono ?_; rintro e w' ⟨rfl, hb1⟩; have hbe := hbe_tr hbe hb1)
    | (go_at_call 20; refine (c5 _).mono ?_; rintro e w' ⟨rfl, hb1⟩; have hbe := hbe_tr hbe hb1)
    | (go_at_call 18; refine (c6 _).mono ?_; rintro e w' ⟨rfl, hb1⟩; have hbe := hbe_tr hbe hb1)
    | fail)
  go_ret
  exact ⟨rfl, hbe⟩
end Go.Proofs.YtdckcnikoichmaaDoor
