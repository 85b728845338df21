/- What is proved: contracts of the four closures of Kind. -/
import Derived.Test.YtbcbknajhdaneaaVIdA
namespace Go.Proofs.Ytbcbknajhdaneaa
open Go.RowKit
set_option linter.unusedVariables false
set_option linter.unusedSimpArgs false
theorem below_drewN' {B : Nat} {a w : World} (h : Below B a w) (n : Nat) : Below B a (w.drewN n) := ⟨h.os, h.tape, h.output, h.size, h.block⟩
theorem cell_below {B : Nat} {w w' : World} {b : Nat} {v : Value} (hb : Below B w w') (h : w.cell? ⟨b, 0, none⟩ = some v) (hlt : b < B) : w'.cell? ⟨b, 0, none⟩ = some v := (hb.cell (p := ⟨b, 0, none⟩) hlt).trans h
set_option maxHeartbeats 2000000 in
theorem kind1_any (a s f : Int) (b0 b1 b2 : Nat) (w : World) (h0 : b0 < w.heap.size) (h1 : b1 < w.heap.size) (h2 : b2 < w.heap.size)
    (c0 : w.cell? ⟨b0, 0, none⟩ = some (.int .u64 a)) (c1 : w.cell? ⟨b1, 0, none⟩ = some (.int .i64 s)) (c2 : w.cell? ⟨b2, 0, none⟩ = some (.int .i64 f)) (ps : Part s) (pf : Part f) :
    Calls Try.prog 105 #[.pointer (some ⟨b0, 0, none⟩), .pointer (some ⟨b1, 0, none⟩), .pointer (some ⟨b2, 0, none⟩)] w fun e w' => e = .returned (.bool ((a == s * 4294967296 + f) && inn 1 1048578 [f] && inn 0 7 [s])) ∧ Below w.heap.size w w' := by
  have hEq : (a == s * 4294967296 + f) = true ∨ (a == s * 4294967296 + f) = false := by cases (a == s * 4294967296 + f) <;> simp
  have hT0 : inn 1 1048578 [f] = true ∨ inn 1 1048578 [f] = false := by cases (inn 1 1048578 [f]) <;> simp
  have hT1 : inn 0 7 [s] = true ∨ inn 0 7 [s] = false := by cases (inn 0 7 [s]) <;> simp
  rcases hEq with hEq | hEq
  · rcases hT0 with hT0 | hT0
    · clear hT1
      go_enter Try.func105, Try.ntmps105
      go_wp2_with fail
      go_region_held3 (fun w' => w'.cell? ⟨b0, 0, none⟩ = some (.int .u64 a) ∧ w'.cell? ⟨b1, 0, none⟩ = some (.int .i64 s) ∧ w'.cell? ⟨b2, 0, none⟩ = some (.int .i64 f)) (first | exact ⟨c0, c1, c2⟩ | (refine ⟨cell_below ?_ c0 h0, cell_below ?_ c1 h1, cell_below ?_ c2 h2⟩ <;> (repeat (first | exact Below.refl _ _ | apply Below.drew | apply below_drewN' | (refine Below.alloc ?_ (by simp <;> omega) _)))) | fail)
          (first
            | (go_at_call 106; refine (packed_any _ _ _ (.inl rfl) ps pf _).mono ?_; rintro e w' ⟨rfl, rfl⟩)
            | (go_at_call 107; (with_reducible refine (within_any 1 1048578 _ 1 1 [f] _ ?_ (by omega)).mono ?_); exact (reads_at _ _ (i64s [f]) 3 _ 1 (by simp) rfl (by simp)).drew; rintro e w' ⟨rfl, rfl⟩)
            | (go_at_call 107; (with_reducible refine (within_any 0 7 _ 1 1 [s] _ ?_ (by omega)).mono ?_); exact (reads_at _ _ (i64s [s]) 3 _ 1 (by simp) rfl (by simp)).drew; rintro e w' ⟨rfl, rfl⟩)
            | fail)
      go_wp2_with fail
      go_ret
      exact ⟨ret_bool (by simp [*]), by repeat (first | exact Below.refl _ _ | apply Below.drew | apply below_drewN' | (refine Below.alloc ?_ (by simp <;> omega) _))⟩
    · clear hT1
      go_enter Try.func105, Try.ntmps105
      go_wp2_with fail
      go_region_with (first
              | (go_at_call 106; refine (packed_any _ _ _ (.inl rfl) ps pf _).mono ?_; rintro e w' ⟨rfl, rfl⟩)
              | (go_at_call 107; (with_reducible refine (within_any 1 1048578 _ 1 1 [f] _ ?_ (by omega)).mono ?_); exact (reads_at _ _ (i64s [f]) 3 _ 1 (by simp) rfl (by simp)).drew; rintro e w' ⟨rfl, rfl⟩)
              | (go_at_call 107; (with_reducible refine (within_any 0 7 _ 1 1 [s] _ ?_ (by omega)).mono ?_); exact (reads_at _ _ (i64s [s]) 3 _ 1 (by simp) rfl (by simp)).drew; rintro e w' ⟨rfl, rfl⟩)
              | fail)
      all_goals
        go_wp2_with fail
        go_ret
        exact ⟨ret_bool (by simp [*]), by repeat (first | exact Below.refl _ _ | apply Below.drew | apply below_drewN' | (refine Below.alloc ?_ (by simp <;> omega) _))⟩
  · clear hT0 hT1
    go_enter Try.func105, Try.ntmps105
    go_wp2_with fail
    go_quiet ((go_at_call 106; exact Calls.quiet_of_same ((packed_any _ _ _ (.inl rfl) ps pf _).mono fun _ _ h => ⟨h.1, h.2.symm⟩)))
    go_wp2_with fail
    go_ret
    exact ⟨ret_bool (by simp [*]), by repeat (first | exact Below.refl _ _ | apply Below.drew | apply below_drewN' | (refine Below.alloc ?_ (by simp <;> omega) _))⟩
set_option maxHeartbeats 2000000 in
theorem kind2_any (a f : Int) (b0 b2 : Nat) (w : World) (h0 : b0 < w.heap.size) (h2 : b2 < w.heap.size) (c0 : w.cell? ⟨b0, 0, none⟩ = some (.int .u64 a)) (c2 : w.cell? ⟨b2, 0, none⟩ = some (.int .i64 f)) (pf : Part f) :
    Calls Try.prog 108 #[.pointer (some ⟨b0, 0, none⟩), .pointer (some ⟨b2, 0, none⟩)] w fun e w' => e = .returned (.bool ((a == 4611686018427387904 + f) && inn 1 24 [f])) ∧ Below w.heap.size w w' := by
  have hEq : (a == 4611686018427387904 + f) = true ∨ (a == 4611686018427387904 + f) = false := by cases (a == 4611686018427387904 + f) <;> simp
  have hT0 : inn 1 24 [f] = true ∨ inn 1 24 [f] = false := by cases (inn 1 24 [f]) <;> simp
  rcases hEq with hEq | hEq
  · clear hT0
    go_enter Try.func108, Try.ntmps108
    go_wp2_with fail
    go_region_held3 (fun w' => w'.cell? ⟨b0, 0, none⟩ = some (.int .u64 a) ∧ w'.cell? ⟨b2, 0, none⟩ = some (.int .i64 f)) (first | exact ⟨c0, c2⟩ | (refine ⟨cell_below ?_ c0 h0, cell_below ?_ c2 h2⟩ <;> (repeat (first | exact Below.refl _ _ | apply Below.drew | apply below_drewN' | (refine Below.alloc ?_ (by simp <;> omega) _)))) | fail)
        (first
          | (go_at_call 106; refine (packed_any _ _ _ (.inr (.inl rfl)) ⟨by omega, by omega⟩ pf _).mono ?_; rintro e w' ⟨rfl, rfl⟩)
          | (go_at_call 107; (with_reducible refine (within_any 1 24 _ 1 1 [f] _ ?_ (by omega)).mono ?_); exact (reads_at _ _ (i64s [f]) 3 _ 1 (by simp) rfl (by simp)).drew; rintro e w' ⟨rfl, rfl⟩)
          | fail)
    go_wp2_with fail
    go_ret
    exact ⟨ret_bool (by simp [*]), by repeat (first | exact Below.refl _ _ | apply Below.drew | apply below_drewN' | (refine Below.alloc ?_ (by simp <;> omega) _))⟩
  · clear hT0
    go_enter Try.func108, Try.ntmps108
    go_wp2_with fail
    go_quiet ((go_at_call 106; exact Calls.quiet_of_same ((packed_any _ _ _ (.inr (.inl rfl)) ⟨by omega, by omega⟩ pf _).mono fun _ _ h => ⟨h.1, h.2.symm⟩)))
    go_wp2_with fail
    go_ret
    exact ⟨ret_bool (by simp [*]), by repeat (first | exact Below.refl _ _ | apply Below.drew | apply below_drewN' | (refine Below.alloc ?_ (by simp <;> omega) _))⟩
set_option maxHeartbeats 2000000 in
theorem kind3_any (a s f : Int) (b0 b1 b2 : Nat) (w : World) (h0 : b0 < w.heap.size) (h1 : b1 < w.heap.size) (h2 : b2 < w.heap.size)
    (c0 : w.cell? ⟨b0, 0, none⟩ = some (.int .u64 a)) (c1 : w.cell? ⟨b1, 0, none⟩ = some (.int .i64 s)) (c2 : w.cell? ⟨b2, 0, none⟩ = some (.int .i64 f)) (ps : Part s) (pf : Part f) :
    Calls Try.prog 109 #[.pointer (some ⟨b0, 0, none⟩), .pointer (some ⟨b1, 0, none⟩), .pointer (some ⟨b2, 0, none⟩)] w fun e w' => e = .returned (.bool ((a == 9223372036854775808 + s * 4294967296 + f) && inn 1 1048578 [s, f])) ∧ Below w.heap.size w w' := by
  have hEq : (a == 9223372036854775808 + s * 4294967296 + f) = true ∨ (a == 9223372036854775808 + s * 4294967296 + f) = false := by cases (a == 9223372036854775808 + s * 4294967296 + f) <;> simp
  have hT0 : inn 1 1048578 [s, f] = true ∨ inn 1 1048578 [s, f] = false := by cases (inn 1 1048578 [s, f]) <;> simp
  rcases hEq with hEq | hEq
  · clear hT0
    go_enter Try.func109, Try.ntmps109
    go_wp2_with fail
    go_region_held3 (fun w' => w'.cell? ⟨b0, 0, none⟩ = some (.int .u64 a) ∧ w'.cell? ⟨b1, 0, none⟩ = some (.int .i64 s) ∧ w'.cell? ⟨b2, 0, none⟩ = some (.int .i64 f)) (first | exact ⟨c0, c1, c2⟩ | (refine ⟨cell_below ?_ c0 h0, cell_below ?_ c1 h1, cell_below ?_ c2 h2⟩ <;> (repeat (first | exact Below.refl _ _ | apply Below.drew | apply below_drewN' | (refine Below.alloc ?_ (by simp <;> omega) _)))) | fail)
        (first
          | (go_at_call 106; refine (packed_any _ _ _ (.inr (.inr rfl)) ps pf _).mono ?_; rintro e w' ⟨rfl, rfl⟩)
          | (go_at_call 107; (with_reducible refine (within_any 1 1048578 _ 2 2 [s, f] _ ?_ (by omega)).mono ?_); exact (reads_at _ _ (i64s [s, f]) 3 _ 2 (by simp) rfl (by simp)).drew; rintro e w' ⟨rfl, rfl⟩)
          | fail)
    go_wp2_with fail
    go_ret
    exact ⟨ret_bool (by simp [*]), by repeat (first | exact Below.refl _ _ | apply Below.drew | apply below_drewN' | (refine Below.alloc ?_ (by simp <;> omega) _))⟩
  · clear hT0
    go_enter Try.func109, Try.ntmps109
    go_wp2_with fail
    go_quiet ((go_at_call 106; exact Calls.quiet_of_same ((packed_any _ _ _ (.inr (.inr rfl)) ps pf _).mono fun _ _ h => ⟨h.1, h.2.symm⟩)))
    go_wp2_with fail
    go_ret
    exact ⟨ret_bool (by simp [*]), by repeat (first | exact Below.refl _ _ | apply Below.drew | apply below_drewN' | (refine Below.alloc ?_ (by simp <;> omega) _))⟩
set_option maxHeartbeats 2000000 in
theorem kind4_any (a s f : Int) (b0 b1 b2 : Nat) (w : World) (h0 : b0 < w.heap.size) (h1 : b1 < w.heap.size) (h2 : b2 < w.heap.size)
    (c0 : w.cell? ⟨b0, 0, none⟩ = some (.int .u64 a)) (c1 : w.cell? ⟨b1, 0, none⟩ = some (.int .i64 s)) (c2 : w.cell? ⟨b2, 0, none⟩ = some (.int .i64 f)) (ps : Part s) (pf : Part f) :
    Calls Try.prog 110 #[.pointer (some ⟨b0, 0, none⟩), .pointer (some ⟨b1, 0, none⟩), .pointer (some ⟨b2, 0, none⟩)] w fun e w' => e = .returned (.bool ((a == 9223372036854775808 + s * 4294967296 + f) && inn 0 1048578 [s, f])) ∧ Below w.heap.size w w' := by
  have hEq : (a == 9223372036854775808 + s * 4294967296 + f) = true ∨ (a == 9223372036854775808 + s * 4294967296 + f) = false := by cases (a == 9223372036854775808 + s * 4294967296 + f) <;> simp
  have hT0 : inn 0 1048578 [s, f] = true ∨ inn 0 1048578 [s, f] = false := by cases (inn 0 1048578 [s, f]) <;> simp
  rcases hEq with hEq | hEq
  · clear hT0
    go_enter Try.func110, Try.ntmps110
    go_wp2_with fail
    go_region_held3 (fun w' => w'.cell? ⟨b0, 0, none⟩ = some (.int .u64 a) ∧ w'.cell? ⟨b1, 0, none⟩ = some (.int .i64 s) ∧ w'.cell? ⟨b2, 0, none⟩ = some (.int .i64 f)) (first | exact ⟨c0, c1, c2⟩ | (refine ⟨cell_below ?_ c0 h0, cell_below ?_ c1 h1, cell_below ?_ c2 h2⟩ <;> (repeat (first | exact Below.refl _ _ | apply Below.drew | apply below_drewN' | (refine Below.alloc ?_ (by simp <;> omega) _)))) | fail)
        (first
          | (go_at_call 106; refine (packed_any _ _ _ (.inr (.inr rfl)) ps pf _).mono ?_; rintro e w' ⟨rfl, rfl⟩)
          | (go_at_call 107; (with_reducible refine (within_any 0 1048578 _ 2 2 [s, f] _ ?_ (by omega)).mono ?_); exact (reads_at _ _ (i64s [s, f]) 3 _ 2 (by simp) rfl (by simp)).drew; rintro e w' ⟨rfl, rfl⟩)
          | fail)
    go_wp2_with fail
    go_ret
    exact ⟨ret_bool (by simp [*]), by repeat (first | exact Below.refl _ _ | apply Below.drew | apply below_drewN' | (refine Below.alloc ?_ (by simp <;> omega) _))⟩
  · clear hT0
    go_enter Try.func110, Try.ntmps110
    go_wp2_with fail
    go_quiet ((go_at_call 106; exact Calls.quiet_of_same ((packed_any _ _ _ (.inr (.inr rfl)) ps pf _).mono fun _ _ h => ⟨h.1, h.2.symm⟩)))
    go_wp2_with fail
    go_ret
    exact ⟨ret_bool (by simp [*]), by repeat (first | exact Below.refl _ _ | apply Below.drew | apply below_drewN' | (refine Below.alloc ?_ (by simp <;> omega) _))⟩
end Go.Proofs.Ytbcbknajhdaneaa
