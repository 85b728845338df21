/- What is proved: IdentBack returns true, at all ids and texts. -/
import Derived.Test.YtdckcnikoichmaaDoorIdP
namespace Go.Proofs.YtdckcnikoichmaaDoor
open Go.RowKit
set_option linter.unusedVariables false
theorem txt_len (a : Int) : (txt a).length ≤ 100 := by
  have hpa := pa_bd a
  have hpb := pb_bd a
  have hl1 := Lib.itoa_length_le (pa a) hpa.1 hpa.2
  have hl2 := Lib.itoa_length_le (pb a) hpb.1 hpb.2
  have hl3 := oneT_len (pa a) hpa
  have hl4 := oneT_len (pb a) hpb
  unfold txt
  (repeat' split) <;> simp only [List.length_append, List.length_cons, List.length_nil] <;> omega
theorem identBack_rw (a : Int) (ha : (Lit.int .u64 a).wf = true) (s : ByteArray) (hs : s.size ≤ 140737488351232) (w : World) (hE : Env w) :
    Calls Tryd.prog 5 #[.int .u64 a, .string s] w fun e w' => e = .returned (.bool true) ∧ Below w.heap.size w w' := by
  have hbe := Below.refl w.heap.size w
  have cK : KC a (kd a) := fun w => kind_any a (word_wf ha) w
  have pA : PC a (pa a) (pb a) := fun w => parts_any a (word_wf ha) w
  have hl : (s.data.toList.take 60).length ≤ 100 := by rw [List.length_take]; omega
  have rL : RC (s.data.toList.take 60) (rdV (s.data.toList.take 60)) (rdE (s.data.toList.take 60)) := fun w hE => read_any _ w hE hl
  have hd := kd_bd a
  obtain ⟨m1, m2, m3⟩ := mk_again a
  refine back_go a _ _ (kd a) (pa a) (pb a) (txt a) _ s w hE hbe cK pA hs ?_ (cut_min s) rL ?_
  · by_cases k0 : kd a = 0
    · left
      refine ⟨k0, ?_, ?_⟩
      · unfold pa; rw [k0]; rfl
      · unfold pb; rw [k0]; rfl
    · right
      refine ⟨k0, fun w hE => ?_, fun w hE => ?_, ?_⟩
      · have := text_any a (word_wf ha) w hE
        rwa [show txE a = 0 from by unfold txE; rw [if_neg k0]] at this
      · have hlt : (txt a).length ≤ 100 := txt_len a
        have := read_any (txt a) w hE hlt
        rwa [(rdV_txt a k0).1, (rdV_txt a k0).2] at this
      · rcases (show kd a = 1 ∨ kd a = 2 ∨ kd a = 3 ∨ kd a = 4 from by omega) with k | k | k | k
        · left; refine ⟨k, fun w => ?_⟩
          have := entity_any (pa a) (pb a) w
          rwa [(m1 k).1, (m1 k).2] at this
        · right; left; refine ⟨k, fun w => ?_⟩
          have := component_any (pa a) w
          rwa [(m2 k).1, (m2 k).2] at this
        · right; right; left; refine ⟨k, fun w => ?_⟩
          have := pair_any (pa a) (pb a) w
          rwa [(m3 (.inl k)).1, (m3 (.inl k)).2] at this
        · right; right; right; refine ⟨k, fun w => ?_⟩
          have := pair_any (pa a) (pb a) w
          rwa [(m3 (.inr k)).1, (m3 (.inr k)).2] at this
  · rcases rd_cases (s.data.toList.take 60) with ⟨h1, h2⟩ | ⟨h1, h2, h3⟩
    · left; exact ⟨h2, h1⟩
    · right
      have hw := kd_word _ h3
      refine ⟨h1, fun w hE => ?_, kd (rdV (s.data.toList.take 60)), fun w => kind_any _ hw w, by simpa using h3⟩
      have := text_any _ hw w hE
      rwa [show txE (rdV (s.data.toList.take 60)) = 0 from by unfold txE; rw [if_neg h3], h2] at this
end Go.Proofs.YtdckcnikoichmaaDoor
