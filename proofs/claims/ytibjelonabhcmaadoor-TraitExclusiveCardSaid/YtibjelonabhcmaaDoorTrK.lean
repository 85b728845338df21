/- What is proved: contract of slices.BinarySearchFunc at relations, by find's comparison. -/
import Derived.Test.YtibjelonabhcmaaDoorTrJ
namespace Go.Proofs.YtibjelonabhcmaaDoor
open Go.RowKit
set_option linter.unusedVariables false
set_option linter.unusedSimpArgs false
def keyAt (l : List Rel) (m : Nat) : Int := match l[m]? with | some x => x.i | none => 0
def bsGo (l : List Rel) (n : Int) : Nat → Nat → Nat → Nat
  | 0, lo, _ => lo
  | f + 1, lo, hi => if lo < hi then (if wrap64 (keyAt l ((lo + hi) / 2) - n) < 0 then bsGo l n f ((lo + hi) / 2 + 1) hi else bsGo l n f lo ((lo + hi) / 2)) else lo
def bsAt (l : List Rel) (n : Int) : Nat := bsGo l n (l.length + 1) 0 l.length
def bsIn (l : List Rel) (n : Int) : Bool := decide (bsAt l n < l.length) && (wrap64 (keyAt l (bsAt l n) - n) == 0)
theorem bsGo_step (l : List Rel) (n : Int) (f lo hi : Nat) (h : lo < hi) : bsGo l n (f + 1) lo hi = if wrap64 (keyAt l ((lo + hi) / 2) - n) < 0 then bsGo l n f ((lo + hi) / 2 + 1) hi else bsGo l n f lo ((lo + hi) / 2) := by
  show (if lo < hi then _ else lo) = _
  rw [if_pos h]
theorem bsGo_end (l : List Rel) (n : Int) (f lo hi : Nat) (h : ¬ lo < hi) : bsGo l n f lo hi = lo := by
  cases f with
  | zero => rfl
  | succ f => show (if lo < hi then _ else lo) = _; rw [if_neg h]
set_option maxRecDepth 100000 in
set_option maxHeartbeats 2000000 in
theorem bs_any (A : Option Addr) (n c : Nat) (l : List Rel) (v : Int) (w : World) (hR : Reads w w.heap.size 6 A n (rels l)) (hn : n ≤ 65536) :
    Calls Tryd.prog 72 #[.slice A n c, .int .i64 v, .func (.func 73) #[] #[]] w fun e w' => e = .returned (.tuple #[.int .i64 (bsAt l v), .bool (bsIn l v)]) ∧ Below w.heap.size w w' := by
  have hl : l.length = n := by have := hR.1; rw [rels_len] at this; omega
  have c31 : Tryd.prog.cellsOf 31 = 6 := by kernel_rfl
  go_enter Tryd.func72, Tryd.ntmps72
  go_wp2_with fail
  go_loopw [9, 10] (fun i j wr => ∃ lo hi f : Nat, lo ≤ hi ∧ hi ≤ n ∧ hi - lo < f ∧ i = .int .i64 lo ∧ j = .int .i64 hi ∧ bsAt l v = bsGo l v f lo hi ∧ Below w.heap.size w wr)
    (fun i j _ => (intOf j).toNat - (intOf i).toNat)
  case atStart => exact ⟨0, n, n + 1, by omega, by omega, by omega, rfl, rfl, by unfold bsAt; rw [hl], Below.refl _ _⟩
  case round =>
    obtain ⟨lo, hi, f, h1, h2, h3, rfl, rfl, hq, hb⟩ := hrel
    by_cases hlt : lo < hi
    · have e1 := List.getElem?_eq_getElem (l := l) (i := (lo + hi) / 2) (by omega)
      generalize l[(lo + hi) / 2]'(by omega) = x at e1
      obtain ⟨b, off, rfl, hbl, g⟩ := rels_cells hR e1
      obtain ⟨g10, g11, g12, g13, g14, g15⟩ := g.below hb hbl
      have hkey : keyAt l ((lo + hi) / 2) = x.i := by unfold keyAt; rw [e1]
      have fc := fun w => fcmp_any x v w
      unfold relV at fc
      cases f with
      | zero => omega
      | succ f =>
        have hu := bsGo_step l v f lo hi hlt
        rw [hkey] at hu
        by_cases t : wrap64 (x.i - v) < 0
        · rw [if_pos t] at hu
          have ht : decide (wrap64 (x.i - v) < 0) = true := decide_eq_true t
          have HQ := Lib.hid (hq.trans hu)
          clear hq hu hkey e1 g hR t
          generalize wrap64 (x.i - v) = r at *
          go_wp2_with (first
          | (go_at_call 73; with_reducible refine (fc _).mono ?_; rintro e w' ⟨rfl, hb1⟩; have hb := hbe_tr hb hb1)
          | fail)
          go_roundw
          case rel => exact ⟨(lo + hi) / 2 + 1, hi, f, by omega, by omega, by omega, by go_num, rfl, HQ.out, hb⟩
          case measure => simp [intOf]; omega
        · rw [if_neg t] at hu
          have ht : decide (wrap64 (x.i - v) < 0) = false := decide_eq_false t
          have HQ := Lib.hid (hq.trans hu)
          clear hq hu hkey e1 g hR t
          generalize wrap64 (x.i - v) = r at *
          go_wp2_with (first
          | (go_at_call 73; with_reducible refine (fc _).mono ?_; rintro e w' ⟨rfl, hb1⟩; have hb := hbe_tr hb hb1)
          | fail)
          go_roundw
          case rel => exact ⟨lo, (lo + hi) / 2, f, by omega, by omega, by omega, rfl, by go_num, HQ.out, hb⟩
          case measure => simp [intOf]; omega
    · rw [bsGo_end l v f lo hi hlt] at hq
      by_cases h4 : lo < n
      · have e1 := List.getElem?_eq_getElem (l := l) (i := lo) (by omega)
        generalize l[lo]'(by omega) = x at e1
        obtain ⟨b, off, rfl, hbl, g⟩ := rels_cells hR e1
        obtain ⟨g10, g11, g12, g13, g14, g15⟩ := g.below hb hbl
        have fc := fun w => fcmp_any x v w
        unfold relV at fc
        have HI := Lib.hid (show bsIn l v = (wrap64 (x.i - v) == 0) from by
          unfold bsIn; rw [hq, hl, decide_eq_true h4]
          show (true && (wrap64 (keyAt l lo - v) == 0)) = _
          rw [show keyAt l lo = x.i from by unfold keyAt; rw [e1]]; rfl)
        have HQ := Lib.hid hq
        clear hq e1 g hR
        generalize wrap64 (x.i - v) = r at *
        go_wp2_with (first
          | (go_at_call 73; with_reducible refine (fc _).mono ?_; rintro e w' ⟨rfl, hb1⟩; have hb := hbe_tr hb hb1)
          | fail)
        go_ret2
        exact ⟨by rw [HQ.out, HI.out] <;> rfl, hb⟩
      · have HI := Lib.hid (show bsIn l v = false from by unfold bsIn; rw [hq, hl, decide_eq_false h4]; rfl)
        have HQ := Lib.hid hq
        clear hq hR
        go_wp2_with fail
        go_ret2
        exact ⟨by rw [HQ.out, HI.out] <;> rfl, hb⟩
theorem find_any (A : Option Addr) (n c : Nat) (l : List Rel) (v : Int) (w : World) (hR : Reads w w.heap.size 6 A n (rels l)) (hn : n ≤ 65536) :
    Calls Tryd.prog 52 #[.slice A n c, .int .i64 v] w fun e w' => e = .returned (.tuple #[.int .i64 (bsAt l v), .bool (bsIn l v)]) ∧ Below w.heap.size w w' := by
  have hc := fun w' hR => bs_any A n c l v w' hR hn
  go_enter Tryd.func52, Tryd.ntmps52
  go_wp2_with fail
  refine (hc _ hR).mono ?_
  rintro e w' ⟨rfl, hb⟩
  go_wp2_with fail
  go_ret2
  exact ⟨rfl, hb⟩
end Go.Proofs.YtibjelonabhcmaaDoor
