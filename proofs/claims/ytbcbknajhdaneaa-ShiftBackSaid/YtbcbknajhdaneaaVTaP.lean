/- What is proved: the document's Same of tables. contracts of cmp.Less and slices.BinarySearch at ids. slices.Index at ids, with the place. -/
import Derived.Test.YtbcbknajhdaneaaVTaM
import Derived.Test.YtbcbknajhdaneaaVLater
namespace Go.Proofs.Ytbcbknajhdaneaa
open Go.RowKit
set_option linter.unusedVariables false
set_option linter.unusedSimpArgs false
end Go.Proofs.Ytbcbknajhdaneaa
namespace Go.Proofs.Ytbcbknajhdaneaa
open Go.RowKit
set_option linter.unusedVariables false
set_option linter.unusedSimpArgs false
theorem nan1 (x : Int) (w : World) : Calls Try.prog 136 #[.int .u64 x] w fun e w' => e = .returned (.bool false) ∧ w = w' := by
  have hx : (x != x) = false := by simp
  go_enter Try.func136, Try.ntmps136
  go_wp2_with fail
  go_ret
  exact ⟨rfl, rfl⟩
theorem nan2 (x : Int) (w : World) : Calls Try.prog 133 #[.int .u64 x] w fun e w' => e = .returned (.bool false) ∧ w = w' := by
  have hx : (x != x) = false := by simp
  go_enter Try.func133, Try.ntmps133
  go_wp2_with fail
  go_ret
  exact ⟨rfl, rfl⟩
theorem less_id (x y : Int) (w : World) : Calls Try.prog 132 #[.int .u64 x, .int .u64 y] w fun e w' => e = .returned (.bool (decide (x < y))) ∧ w = w' := by
  have c1 := fun x w => nan1 x w
  go_enter Try.func132, Try.ntmps132
  go_wp2_with (first
    | (go_at_call 136; (with_reducible refine (c1 _ _).mono ?_); (rintro e w1 ⟨rfl, rfl⟩))
    | fail)
  go_ret
  exact ⟨rfl, rfl⟩
def ibGo (l : List Int) (n : Int) : Nat → Nat → Nat → Nat
  | 0, lo, _ => lo
  | f + 1, lo, hi => if lo < hi then (if idAt l ((lo + hi) / 2) < n then ibGo l n f ((lo + hi) / 2 + 1) hi else ibGo l n f lo ((lo + hi) / 2)) else lo
def ibAt (l : List Int) (n : Int) : Nat := ibGo l n (l.length + 1) 0 l.length
def ibIn (l : List Int) (n : Int) : Bool := decide (ibAt l n < l.length) && (idAt l (ibAt l n) == n)
theorem ibGo_step (l : List Int) (n : Int) (f lo hi : Nat) (h : lo < hi) : ibGo l n (f + 1) lo hi = if idAt l ((lo + hi) / 2) < n then ibGo l n f ((lo + hi) / 2 + 1) hi else ibGo l n f lo ((lo + hi) / 2) := by
  show (if lo < hi then _ else lo) = _
  rw [if_pos h]
theorem ibGo_end (l : List Int) (n : Int) (f lo hi : Nat) (h : ¬ lo < hi) : ibGo l n f lo hi = lo := by
  cases f with
  | zero => rfl
  | succ f => show (if lo < hi then _ else lo) = _; rw [if_neg h]
theorem idAt_some {l : List Int} {k : Nat} {x : Int} (h : l[k]? = some x) : idAt l k = x := by unfold idAt; rw [h]
set_option maxRecDepth 100000 in
set_option maxHeartbeats 2000000 in
theorem ib_any (A : Option Addr) (n c : Nat) (l : List Int) (v : Int) (w : World) (hR : Reads w w.heap.size 1 A n (ids l)) (hn : n ≤ 281474976710656) :
    Calls Try.prog 118 #[.slice A n c, .int .u64 v] w fun e w' => e = .returned (.tuple #[.int .i64 (ibAt l v), .bool (ibIn l v)]) ∧ w = w' := by
  have hl : l.length = n := by have := hR.1; rw [ids_len] at this; omega
  go_enter Try.func118, Try.ntmps118
  go_wp2_with fail
  go_loopw [7, 8] (fun i j wr => ∃ lo hi f : Nat, lo ≤ hi ∧ hi ≤ n ∧ hi - lo < f ∧ i = .int .i64 lo ∧ j = .int .i64 hi ∧ ibAt l v = ibGo l v f lo hi ∧ w = wr)
    (fun i j _ => (intOf j).toNat - (intOf i).toNat)
  case atStart => exact ⟨0, n, n + 1, by omega, by omega, by omega, rfl, rfl, by unfold ibAt; rw [hl], rfl⟩
  case round =>
    obtain ⟨lo, hi, f, h1, h2, h3, rfl, rfl, hq, rfl⟩ := hrel
    by_cases hlt : lo < hi
    · have e1 := List.getElem?_eq_getElem (l := l) (i := (lo + hi) / 2) (by omega)
      generalize l[(lo + hi) / 2]'(by omega) = x at e1
      obtain ⟨b, off, rfl, hbl, g⟩ := ids_cell hR e1
      have hkey := idAt_some e1
      have fc := fun w => less_id x v w
      cases f with
      | zero => omega
      | succ f =>
        have hu := ibGo_step l v f lo hi hlt
        rw [hkey] at hu
        by_cases t : x < v
        · rw [if_pos t] at hu
          have ht : decide (x < v) = true := decide_eq_true t
          rw [ht] at fc
          have HQ := Lib.hid (hq.trans hu)
          clear hq hu hkey e1 hR t ht
          go_wp2_with (first
          | (go_at_call 132; (with_reducible refine (fc _).mono ?_); (rintro e w' ⟨rfl, rfl⟩))
          | fail)
          go_roundw
          case rel => exact ⟨(lo + hi) / 2 + 1, hi, f, by omega, by omega, by omega, by go_num, rfl, HQ.out, by trivial⟩
          case measure => simp [intOf]; omega
        · rw [if_neg t] at hu
          have ht : decide (x < v) = false := decide_eq_false t
          rw [ht] at fc
          have HQ := Lib.hid (hq.trans hu)
          clear hq hu hkey e1 hR t ht
          go_wp2_with (first
          | (go_at_call 132; (with_reducible refine (fc _).mono ?_); (rintro e w' ⟨rfl, rfl⟩))
          | fail)
          go_roundw
          case rel => exact ⟨lo, (lo + hi) / 2, f, by omega, by omega, by omega, rfl, by go_num, HQ.out, by trivial⟩
          case measure => simp [intOf]; omega
    · rw [ibGo_end l v f lo hi hlt] at hq
      by_cases h4 : lo < n
      · have e1 := List.getElem?_eq_getElem (l := l) (i := lo) (by omega)
        generalize l[lo]'(by omega) = x at e1
        obtain ⟨b, off, rfl, hbl, g⟩ := ids_cell hR e1
        have fc := fun x w => nan2 x w
        have HI := Lib.hid (show ibIn l v = (x == v) from by
          unfold ibIn; rw [hq, hl, decide_eq_true h4, idAt_some e1]; rfl)
        have HQ := Lib.hid hq
        clear hq e1 hR
        cases hxv : (x == v)
        all_goals
          rw [hxv] at HI
          go_wp2_with (first
            | (go_at_call 133; (with_reducible refine (fc _ _).mono ?_); (rintro e w' ⟨rfl, rfl⟩))
            | fail)
          go_ret2
          exact ⟨by rw [HQ.out, HI.out] <;> rfl, rfl⟩
      · have HI := Lib.hid (show ibIn l v = false from by unfold ibIn; rw [hq, hl, decide_eq_false h4]; rfl)
        have HQ := Lib.hid hq
        clear hq hR
        go_wp2_with fail
        go_ret2
        exact ⟨by rw [HQ.out, HI.out] <;> rfl, rfl⟩
end Go.Proofs.Ytbcbknajhdaneaa
namespace Go.Proofs.Ytbcbknajhdaneaa
open Go.RowKit
set_option linter.unusedVariables false
set_option linter.unusedSimpArgs false
/-- the place of a number in a row; -1: it is not there -/
def ixGo (v : Int) : List Int → Nat → Int
  | [], _ => -1
  | x :: l, k => if v == x then (k : Int) else ixGo v l (k + 1)
def ixD (l : List Int) (v : Int) : Int := ixGo v l 0
theorem index_d (A : Option Addr) (n c : Nat) (l : List Int) (v : Int) (w : World) (hR : Reads w w.heap.size 1 A n (ids l)) (hn : n ≤ 281474976710656) :
    Calls Try.prog 27 #[.slice A n c, .int .u64 v] w fun e w' => e = .returned (.int .i64 (ixD l v)) ∧ w = w' := by
  have hl : l.length = n := by have := hR.1; rw [ids_len] at this; omega
  go_enter Try.func27, Try.ntmps27
  go_wp2_with fail
  go_loopw [8] (fun i wr => ∃ k : Nat, k ≤ n ∧ i = .int .i64 k ∧ ixD l v = ixGo v (l.drop k) k ∧ w = wr)
    (fun i _ => n - (intOf i).toNat)
  case atStart => exact ⟨0, Nat.zero_le _, rfl, rfl, rfl⟩
  case round =>
    obtain ⟨k, hk, rfl, hq, rfl⟩ := hrel
    by_cases hlt : k < n
    · have e1 := List.getElem?_eq_getElem (l := l) (i := k) (by omega)
      generalize l[k]'(by omega) = x at e1
      rw [drop_cons e1] at hq
      obtain ⟨b, off, rfl, hbl, g⟩ := ids_cell hR e1
      have i1 : (k : Int) < (n : Int) := by omega
      have hq2 : ixD l v = if v == x then (k : Int) else ixGo v (l.drop (k + 1)) (k + 1) := hq
      cases hv : (v == x)
      · rw [hv] at hq2
        have HQ := Lib.hid hq2
        clear hq hq2 e1 hR
        go_wp2_with fail
        go_roundw
        case rel => exact ⟨k + 1, by omega, by go_num, HQ.out, by trivial⟩
        case measure => simp [intOf]; omega
      · rw [hv] at hq2
        have HQ := Lib.hid hq2
        clear hq hq2 e1 hR
        go_wp2_with fail
        try rw [Exit.noGoto_ret]
        go_ret
        exact ⟨by rw [HQ.out]; rfl, rfl⟩
    · rw [List.drop_of_length_le (by omega)] at hq
      have HQ := Lib.hid hq
      clear hq hR
      go_wp2_with fail
      try rw [Exit.noGoto_ret]
      go_ret
      exact ⟨by rw [HQ.out]; rfl, rfl⟩
end Go.Proofs.Ytbcbknajhdaneaa
