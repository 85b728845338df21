/- What is proved: the law's TraitGoes returns true. -/
import Derived.Test.YtibjelonabhcmaaDoorTt2
import Derived.Test.YtibjelonabhcmaaDoorTt3
namespace Go.Proofs.YtibjelonabhcmaaDoor
open Go.RowKit
set_option linter.unusedVariables false
theorem i64_wf {x : Int} (h : (Lit.int .i64 x).wf = true) : -9223372036854775808 ≤ x ∧ x ≤ 9223372036854775807 := by
  have hmin : IntKind.i64.min = -9223372036854775808 := rfl
  have hmax : IntKind.i64.max = 9223372036854775807 := rfl
  simp only [Lit.wf, Bool.and_eq_true, decide_eq_true_eq] at h
  rw [hmin, hmax] at h
  exact h
theorem goes_row (A : Option Addr) (n c : Nat) (l : List Rel) (hnc : n ≤ c) (hn : c ≤ 281474976710656) {Q : Prop} (_ : Q)
    (A1 : Option Addr) (n1 c1 : Nat) (l1 : List Rel) (hnc1 : n1 ≤ c1) (hn1 : c1 ≤ 281474976710656) (hw1 : ∀ x ∈ l1, RelWf x)
    (A2 : Option Addr) (n2 c2 : Nat) (l2 : List Int) (hnc2 : n2 ≤ c2) (hn2 : c2 * 8 ≤ 140737488351232) (hw2 : ∀ x ∈ l2, (Lit.int .i64 x).wf = true) (w : World) (hE : Env w)
    (hR : Reads w w.heap.size 6 A n (rels l)) (hR1 : Reads w w.heap.size 6 A1 n1 (rels l1)) (hR2 : Reads w w.heap.size 1 A2 n2 (l2.map (Value.int .i64))) :
    Calls Tryd.prog 5 #[.slice A n c, .slice A1 n1 c1, .slice A2 n2 c2] w fun e w' => e = .returned (.bool true) ∧ Below w.heap.size w w' := by
  cases h : right (l.take 201)
  · exact goes_false A n c l A1 n1 c1 l1 A2 n2 c2 l2 w hE hR hnc hn hR1 (by omega) hw1 hR2 (by omega) (fun x hx => i64_wf (hw2 x hx)) h
  · exact goes_true A n c l A1 n1 c1 l1 A2 n2 c2 l2 w hE hR hnc hn hR1 (by omega) hw1 hR2 (by omega) (fun x hx => i64_wf (hw2 x hx)) h
end Go.Proofs.YtibjelonabhcmaaDoor
