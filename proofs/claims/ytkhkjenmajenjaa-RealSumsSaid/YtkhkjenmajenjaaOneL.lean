/- What is proved: the walk of RealOne over well-formed words. -/
import Derived.Test.YtkhkjenmajenjaaOneW
namespace Go.Proofs.Ytkhkjenmajenjaa
open Go.RowKit
theorem word_of_wf {x : Int} (h : (Lit.int .u64 x).wf = true) : Word x := by
  simp [Lit.wf, IntKind.min, IntKind.max, IntKind.signed, IntKind.bits] at h
  exact ⟨by omega, by omega⟩
theorem realOne_walk (a : Int) (wa : (Lit.int .u64 a).wf = true) (b : Int) (wb : (Lit.int .u64 b).wf = true) (c : Int) (wc : (Lit.int .u64 c).wf = true) (w : World) :
    Calls Try.prog 3 #[.int .u64 a, .int .u64 b, .int .u64 c] w fun e w' => e = .returned (.bool true) ∧ Below w.heap.size w w' :=
  realOne_any a b c (word_of_wf wa) (word_of_wf wb) (word_of_wf wc) w
end Go.Proofs.Ytkhkjenmajenjaa
