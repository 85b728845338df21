/- What is proved: slices.Index at ids, with the place. -/
import Derived.Test.YtbcbknajhdaneaaTaO
namespace Go.Proofs.Ytbcbknajhdaneaa
open Go.RowKit
set_option linter.unusedVariables false
set_option linter.unusedSimpArgs false
/-- the place of a number in a row; -1: it is not there -/
def ixGo (v : Int) : List Int → Nat → Int
  | [], _ => -1
  | x :: l, k => if v == x then (k : Int) else ixGo v l (k + 1)
def ixD (l : List Int) (v : Int) : Int := ixGo v l 0
theorem index_d (A : Option Addr) (n c : Nat) (l : List Int) (v : Int) (w : World) (hR : Reads w w.heap.size 1 A n (ids l)) (hn : n ≤ 281474976710656) :
    Calls Try.prog 27 #[.slice A n c, .int .u64 v] w fun e w' => e = .returned (.int .i64 (ixD l v)) ∧ w = w' := by
  have hl : l.length = n := by have := hR.1; rw [ids_len] at this; omega
  go_enter Try.func27, Try.ntmps27
  go_wp2_with fail
  go_loopw [8] (fun i wr => ∃ k : Nat, k ≤ n ∧ i = .int .i64 k ∧ ixD l v = ixGo v (l.drop k) k ∧ w = wr)
    (fun i _ => n - (intOf i).toNat)
  case atStart => exact ⟨0, Nat.zero_le _, rfl, rfl, rfl⟩
  case round =>
    obtain ⟨k, hk, rfl, hq, rfl⟩ := hrel
    by_cases hlt : k < n
    · have e1 := List.getElem?_eq_getElem (l := l) (i := k) (by omega)
      generalize l[k]'(by omega) = x at e1
      rw [drop_cons e1] at hq
      obtain ⟨b, off, rfl, hbl, g⟩ := ids_cell hR e1
      have i1 : (k : Int) < (n : Int) := by omega
      have hq2 : ixD l v = if v == x then (k : Int) else ixGo v (l.drop (k + 1)) (k + 1) := hq
      cases hv : (v == x)
      · rw [hv] at hq2
        have HQ := Lib.hid hq2
        clear hq hq2 e1 hR
        go_wp2_with fail
        go_roundw
        case rel => exact ⟨k + 1, by omega, by go_num, HQ.out, by trivial⟩
        case measure => simp [intOf]; omega
      · rw [hv] at hq2
        have HQ := Lib.hid hq2
        clear hq hq2 e1 hR
        go_wp2_with fail
        try rw [Exit.noGoto_ret]
        go_ret
        exact ⟨by rw [HQ.out]; rfl, rfl⟩
    · rw [List.drop_of_length_le (by omega)] at hq
      have HQ := Lib.hid hq
      clear hq hR
      go_wp2_with fail
      try rw [Exit.noGoto_ret]
      go_ret
      exact ⟨by rw [HQ.out]; rfl, rfl⟩
end Go.Proofs.Ytbcbknajhdaneaa
