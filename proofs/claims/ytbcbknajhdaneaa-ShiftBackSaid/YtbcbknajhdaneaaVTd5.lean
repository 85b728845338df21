/- What is proved: contracts of the law's entity and small; what is known of a table from what it holds. what the contracts say of the law's small table. the law's wakes says yes. -/
import Derived.Test.YtbcbknajhdaneaaVTd2
import Derived.Test.YtbcbknajhdaneaaVOg
namespace Go.Proofs.Ytbcbknajhdaneaa
open Go.RowKit
set_option linter.unusedVariables false
set_option linter.unusedSimpArgs false
theorem tabOk_of {ps : List PC} {A B : Option Addr} {An Ac Bn Bc : Nat} {l m : List Int} {v : Value} {F : List Col} {w w' : World} (hF : F.map Col.p = ps) (hA : Reads w' w'.heap.size 1 A An (ids l)) (hAc : An ≤ Ac ∧ Ac ≤ maxLen) (hAw : ∀ x ∈ l, Word x)
    (hB : Reads w' w'.heap.size 1 B Bn (ids m)) (hBc : Bn ≤ Bc ∧ Bc ≤ maxLen) (hBw : ∀ x ∈ m, Word x) (ho : w'.ownsRow w.heap.size 68 3 v F.length (cols F)) (hf : ∀ x ∈ F, ColFresh w' w.heap.size x) :
    ∃ t : Tab, .agg #[.slice A An Ac, v, .slice B Bn Bc] = t.V ∧ t.p = (l, ps, m) ∧ TabOk w' w'.heap.size t := by
  obtain ⟨C, c, rfl, h1, h2⟩ := own_cap ho
  exact ⟨⟨A, An, Ac, l, C, F.length, c, F, B, Bn, Bc, m⟩, rfl, by unfold Tab.p; simp only; rw [hF], hA, hAc, hAw, Reads.of_own ho, ⟨h1, by unfold maxLen; exact h2⟩, fun x hx => (hf x hx).1, hB, hBc, hBw⟩
theorem blk_reads {w : World} {g n : Nat} {t : TypeId} {cs : Array Value} (h : Blk w g t cs) (hn : cs.size = n) : Reads w w.heap.size 1 (some ⟨g, 0, none⟩) n cs.toList := by
  refine ⟨by simpa using hn, fun _ => ⟨_, rfl, h.lt, fun j x hx => ?_⟩⟩
  rw [add_none, Nat.zero_add, h.cell]
  simpa using hx
theorem word_all {l : List Int} (h : l.all (fun x => decide (0 ≤ x) && decide (x ≤ 18446744073709551615)) = true) : ∀ x ∈ l, Word x := fun x hx => by
  have h1 := List.all_eq_true.1 h x hx
  rw [Bool.and_eq_true] at h1
  exact ⟨of_decide_eq_true h1.1, of_decide_eq_true h1.2⟩
theorem rwOk_blk {w : World} {g n : Nat} {t : TypeId} {cs : Array Value} {l : List Int} (h : Blk w g t cs) (hl : cs.toList = ids l) (hn : l.length = n) (hw : l.all (fun x => decide (0 ≤ x) && decide (x ≤ 18446744073709551615)) = true) (hm : n ≤ 65536) : RwOk w w.heap.size ⟨some ⟨g, 0, none⟩, n, n, l⟩ :=
  ⟨by rw [← hl]; exact blk_reads h (by have := congrArg List.length hl; rw [ids_len] at this; simpa [hn] using this), Nat.le_refl _, by simp only [maxLen]; omega, word_all hw⟩
end Go.Proofs.Ytbcbknajhdaneaa
namespace Go.Proofs.Ytbcbknajhdaneaa
open Go.RowKit
set_option linter.unusedVariables false
set_option linter.unusedSimpArgs false
section
variable (TA : Option Addr) (Tc : Nat) (CA : Option Addr) (Cc : Nat) (A0 : Option Addr) (c0 : Nat) (A1 : Option Addr) (c1 : Nat) (EA : Option Addr) (Ec : Nat)
end
end Go.Proofs.Ytbcbknajhdaneaa
namespace Go.Proofs.Ytbcbknajhdaneaa
open Go.RowKit
set_option linter.unusedVariables false
set_option linter.unusedSimpArgs false
end Go.Proofs.Ytbcbknajhdaneaa
