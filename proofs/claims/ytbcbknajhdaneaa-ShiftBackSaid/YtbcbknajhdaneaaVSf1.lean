/- What is proved: the document's Move at tables that say the same; how large what Move hands back is. -/
import Derived.Test.YtbcbknajhdaneaaVSf0
namespace Go.Proofs.Ytbcbknajhdaneaa
open Go.RowKit Go.Maps
set_option linter.unusedVariables false
set_option linter.unusedSimpArgs false
theorem mv_psm {a b tf tt : Tab} {row : Int} (hw : ∀ x ∈ a.es, Word x) (hpf : tf.p = mvF a b row) (hpt : tt.p = mvT a b row) (n1 : NL a) (n2 : NL b) (n3 : NL tf) (n4 : NL tt)
    (pa : PSm a.p) (pb : PSm b.p) (la : a.es.length ≤ 30) (lb : b.es.length ≤ 30) : PSm tf.p ∧ PSm tt.p := by
  by_cases h : mvE a b row = 0
  · obtain ⟨h1, h2, _⟩ := mv_zero h
    have hF : a.F.length ≤ 65535 := by have h9 := pa.2.1; unfold Tab.p at h9; simpa using h9
    have hG : b.F.length ≤ 65535 := by have h9 := pb.2.1; unfold Tab.p at h9; simpa using h9
    obtain ⟨b1, b2⟩ := moved_bd h hw hpf hpt n1 n2 n3 n4 (a := 30) (b := 30) ⟨h1, pa.1, hF, la⟩ ⟨h2, pb.1, hG, lb⟩
    exact ⟨b1.psm (by omega) n3, b2.psm (by omega) n4⟩
  · unfold mvF at hpf
    unfold mvT at hpt
    rw [if_neg h] at hpf hpt
    rw [hpf, hpt]
    exact ⟨⟨Nat.zero_le _, Nat.zero_le _, Nat.zero_le _, by simp [noT]⟩, ⟨Nat.zero_le _, Nat.zero_le _, Nat.zero_le _, by simp [noT]⟩⟩
end Go.Proofs.Ytbcbknajhdaneaa
