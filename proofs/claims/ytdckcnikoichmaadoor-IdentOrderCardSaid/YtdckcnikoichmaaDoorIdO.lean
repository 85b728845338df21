/- What is proved: IdentOrder returns true, at all ids. -/
import Derived.Test.YtdckcnikoichmaaDoorIdN
namespace Go.Proofs.YtdckcnikoichmaaDoor
open Go.RowKit
set_option maxHeartbeats 2000000 in
theorem identOrder_rw (x : Int) (hx : (Lit.int .u64 x).wf = true) (y : Int) (hy : (Lit.int .u64 y).wf = true) (w : World) (hE : Env w) :
    Calls Tryd.prog 7 #[.int .u64 x, .int .u64 y] w fun e w' => e = .returned (.bool true) ∧ Below w.heap.size w w' := by
  have hbe := Below.refl w.heap.size w
  have cX : KC x (kd x) := fun w => kind_any x (word_wf hx) w
  have cY : KC y (kd y) := fun w => kind_any y (word_wf hy) w
  by_cases k0 : kd x = 0
  · exact ord_none x y _ _ w hE hbe cX cY (.inl (by simpa using k0))
  · by_cases l0 : kd y = 0
    · exact ord_none x y _ _ w hE hbe cX cY (.inr ⟨by simpa using k0, by simpa using l0⟩)
    · have tX : TC x (txt x) := fun w hE => by
        have := text_any x (word_wf hx) w hE
        rwa [show txE x = 0 from by unfold txE; rw [if_neg k0]] at this
      have tY : TC y (txt y) := fun w hE => by
        have := text_any y (word_wf hy) w hE
        rwa [show txE y = 0 from by unfold txE; rw [if_neg l0]] at this
      have pX : PC x (pa x) (pb x) := fun w => parts_any x (word_wf hx) w
      have pY : PC y (pa y) (pb y) := fun w => parts_any y (word_wf hy) w
      have ht := txt_beq x y k0 l0
      have dx := kd_bd x
      have dy := kd_bd y
      by_cases hm : min (kd x) 3 = min (kd y) 3
      · have hf : SameFacts (ra x) (rb x) (ra y) (rb y) x y (x == y) := ord_facts x y k0 l0 hm
        by_cases h3 : kd x < 3
        · have h3' : kd y < 3 := by omega
          have e : kd y = kd x := by omega
          rw [e] at cY
          unfold ra rb at hf
          rw [if_pos h3, if_pos h3, if_pos h3', if_pos h3'] at hf
          exact ord_low x y _ _ _ _ _ _ _ w hE hbe cX cY tX tY pX pY (by omega) ht hf
        · have h3' : ¬ kd y < 3 := by omega
          unfold ra rb at hf
          rw [if_neg h3, if_neg h3, if_neg h3', if_neg h3'] at hf
          exact ord_high x y _ _ _ _ _ _ _ _ w hE hbe cX cY tX tY pX pY (by omega) ht hf
      · obtain ⟨f1, f2⟩ := diff_facts x y k0 l0 hm
        rw [f1] at ht
        have hmem : (kd x, kd y) ∈ DIFF := by
          have hx4 : kd x = 1 ∨ kd x = 2 ∨ kd x = 3 ∨ kd x = 4 := by clear hm; omega
          have hy4 : kd y = 1 ∨ kd y = 2 ∨ kd y = 3 ∨ kd y = 4 := by clear hm; omega
          clear cX cY tX tY pX pY f2 ht dx dy k0 l0
          rcases hx4 with k | k | k | k <;> rcases hy4 with l | l | l | l
          all_goals rw [k, l] at hm ⊢
          all_goals first | decide | exact absurd (by decide) hm
        refine ord_diff x y _ _ _ _ w hE hbe cX cY tX tY hmem ht f1 ?_
        rcases f2 with ⟨g1, g2⟩ | ⟨g1, g2⟩
        · rw [g1]; simp [g2]
        · rw [g1]; simp [g2]
end Go.Proofs.YtdckcnikoichmaaDoor
