/- What is proved: the contracts of Kind, Parts and Takes of package ident. -/
import Derived.Test.YtbcbknajhdaneaaIdB
namespace Go.Proofs.Ytbcbknajhdaneaa
open Go.RowKit
set_option linter.unusedVariables false
set_option linter.unusedSimpArgs false
def tk (a : Int) (j : Nat) : Bool :=
  if j = 1 then ((a == hi a * 4294967296 + lo a) && inn 1 1048578 [lo a] && inn 0 7 [hi a])
  else if j = 2 then ((a == 4611686018427387904 + lo a) && inn 1 24 [lo a])
  else if j = 3 then ((a == 9223372036854775808 + hi a * 4294967296 + lo a) && inn 1 1048578 [hi a, lo a])
  else ((a == 9223372036854775808 + hi a * 4294967296 + lo a) && inn 0 1048578 [hi a, lo a])
theorem tk1 (a : Int) : tk a 1 = ((a == hi a * 4294967296 + lo a) && inn 1 1048578 [lo a] && inn 0 7 [hi a]) := rfl
theorem tk2 (a : Int) : tk a 2 = ((a == 4611686018427387904 + lo a) && inn 1 24 [lo a]) := rfl
theorem tk3 (a : Int) : tk a 3 = ((a == 9223372036854775808 + hi a * 4294967296 + lo a) && inn 1 1048578 [hi a, lo a]) := rfl
theorem tk4 (a : Int) : tk a 4 = ((a == 9223372036854775808 + hi a * 4294967296 + lo a) && inn 0 1048578 [hi a, lo a]) := rfl
def kd (a : Int) : Int := if tk a 1 then 1 else if tk a 2 then 2 else if tk a 3 then 3 else if tk a 4 then 4 else 0
def Pre (a : Int) (k : Nat) : Prop := ∀ j, 1 ≤ j → j < k → tk a j = false
theorem pre_step {a : Int} {k : Nat} (h : Pre a k) (h2 : tk a k = false) : Pre a (k + 1) := fun j h1 hj => by
  rcases Nat.lt_or_ge j k with h3 | h3
  · exact h j h1 h3
  · have : j = k := by omega
    subst this; exact h2
theorem kd_at {a : Int} {k : Nat} (h : Pre a k) (h1 : 1 ≤ k) (h4 : k ≤ 4) (h2 : tk a k = true) : kd a = k := by
  unfold kd
  rcases (show k = 1 ∨ k = 2 ∨ k = 3 ∨ k = 4 from by omega) with rfl | rfl | rfl | rfl
  · rw [if_pos h2]; rfl
  · rw [h 1 (by omega) (by omega), h2]; rfl
  · rw [h 1 (by omega) (by omega), h 2 (by omega) (by omega), h2]; rfl
  · rw [h 1 (by omega) (by omega), h 2 (by omega) (by omega), h 3 (by omega) (by omega), h2]; rfl
theorem kd_none {a : Int} (h : Pre a 5) : kd a = 0 := by
  unfold kd
  rw [h 1 (by omega) (by omega), h 2 (by omega) (by omega), h 3 (by omega) (by omega), h 4 (by omega) (by omega)]; rfl
theorem cell_below' {B : Nat} {w w' : World} {b i : Nat} {v : Value} (hb : Below B w w') (h : w.cell? ⟨b, i, none⟩ = some v) (hlt : b < B) : w'.cell? ⟨b, i, none⟩ = some v := (hb.cell (p := ⟨b, i, none⟩) hlt).trans h
theorem hbe_tr {w w1 w2 : World} (h : Below w.heap.size w w1) (h2 : Below w1.heap.size w1 w2) : Below w.heap.size w w2 := h.trans (h2.mono h.size)
set_option maxHeartbeats 4000000 in
theorem kind_any (a : Int) (h : Word a) (w : World) :
    Calls Try.prog 65 #[.int .u64 a] w fun e w' => e = .returned (.int .i64 (kd a)) ∧ Below w.heap.size w w' := by
  have hmf : ∀ (fn : Fn) (first cap : Array Value) (w : World), (Instr.makeFunc fn first cap).run Try.prog w = .ok (.func fn first cap) w := fun _ _ _ _ => rfl
  have ph := hi_bd a
  have pl := lo_bd a
  go_enter Try.func65, Try.ntmps65
  go_wp2_with (first | (go_at_call 104; refine (halves_any _ h _).mono ?_; rintro e w' ⟨rfl, rfl⟩))
  have z0 : ∀ (w : World) (o : Obj), (w.alloc o).heap.size = w.heap.size + 1 := fun w o => by simp
  obtain ⟨W0, hW0⟩ : ∃ W0, W0 = (((w.alloc (Obj.cells #[Value.int .u64 a] 27)).alloc (Obj.cells #[Value.int .i64 (hi a)] 3)).alloc (Obj.cells #[Value.int .i64 (lo a)] 3)).alloc
    (Obj.cells #[.nilFunc, .func (.func 105) #[] #[.pointer (some ⟨w.heap.size, 0, none⟩), .pointer (some ⟨w.heap.size + 1, 0, none⟩), .pointer (some ⟨w.heap.size + 1 + 1, 0, none⟩)],
      .func (.func 108) #[] #[.pointer (some ⟨w.heap.size, 0, none⟩), .pointer (some ⟨w.heap.size + 1 + 1, 0, none⟩)],
      .func (.func 109) #[] #[.pointer (some ⟨w.heap.size, 0, none⟩), .pointer (some ⟨w.heap.size + 1, 0, none⟩), .pointer (some ⟨w.heap.size + 1 + 1, 0, none⟩)],
      .func (.func 110) #[] #[.pointer (some ⟨w.heap.size, 0, none⟩), .pointer (some ⟨w.heap.size + 1, 0, none⟩), .pointer (some ⟨w.heap.size + 1 + 1, 0, none⟩)]] 142) := ⟨_, rfl⟩
  have hsz : W0.heap.size = w.heap.size + 4 := by rw [hW0]; simp
  have hb0 : Below w.heap.size w W0 := by rw [hW0]; exact ((((Below.refl _ _).alloc (by simp) _).alloc (by simp) _).alloc (by simp; omega) _).alloc (by simp; omega) _
  have c0 : W0.cell? ⟨w.heap.size, 0, none⟩ = some (.int .u64 a) := by rw [hW0]; simp [go_sem, World.cell?_alloc_past]
  have c1 : W0.cell? ⟨w.heap.size + 1, 0, none⟩ = some (.int .i64 (hi a)) := by rw [hW0]; simp [go_sem, World.cell?_alloc_past]
  have c2 : W0.cell? ⟨w.heap.size + 1 + 1, 0, none⟩ = some (.int .i64 (lo a)) := by rw [hW0]; simp [go_sem, World.cell?_alloc_past]
  have d1 : W0.cell? ⟨w.heap.size + 1 + 1 + 1, 1, none⟩ = some (.func (.func 105) #[] #[.pointer (some ⟨w.heap.size, 0, none⟩), .pointer (some ⟨w.heap.size + 1, 0, none⟩), .pointer (some ⟨w.heap.size + 1 + 1, 0, none⟩)]) := by rw [hW0]; simp [go_sem, World.cell?_alloc_past]
  have d2 : W0.cell? ⟨w.heap.size + 1 + 1 + 1, 2, none⟩ = some (.func (.func 108) #[] #[.pointer (some ⟨w.heap.size, 0, none⟩), .pointer (some ⟨w.heap.size + 1 + 1, 0, none⟩)]) := by rw [hW0]; simp [go_sem, World.cell?_alloc_past]
  have d3 : W0.cell? ⟨w.heap.size + 1 + 1 + 1, 3, none⟩ = some (.func (.func 109) #[] #[.pointer (some ⟨w.heap.size, 0, none⟩), .pointer (some ⟨w.heap.size + 1, 0, none⟩), .pointer (some ⟨w.heap.size + 1 + 1, 0, none⟩)]) := by rw [hW0]; simp [go_sem, World.cell?_alloc_past]
  have d4 : W0.cell? ⟨w.heap.size + 1 + 1 + 1, 4, none⟩ = some (.func (.func 110) #[] #[.pointer (some ⟨w.heap.size, 0, none⟩), .pointer (some ⟨w.heap.size + 1, 0, none⟩), .pointer (some ⟨w.heap.size + 1 + 1, 0, none⟩)]) := by rw [hW0]; simp [go_sem, World.cell?_alloc_past]
  rw [← hW0]
  clear hW0 z0
  go_loopw [6] (fun i wr => ∃ k : Nat, 1 ≤ k ∧ k ≤ 5 ∧ i = .int .i64 k ∧ Pre a k ∧ Below W0.heap.size W0 wr)
    (fun i _ => 5 - (intOf i).toNat)
  case atStart => exact ⟨1, by omega, by omega, rfl, fun j h1 h2 => by omega, Below.refl _ _⟩
  case round =>
    obtain ⟨k, hk1, hk5, rfl, hpre, hbw⟩ := hrel
    have hP := Lib.hid hpre
    clear hpre
    have hbe := hb0.trans (hbw.mono hb0.size)
    have hz := hbw.size
    have g0 := cell_below hbw c0 (by omega)
    have g1 := cell_below hbw c1 (by omega)
    have g2 := cell_below hbw c2 (by omega)
    rcases (show k = 1 ∨ k = 2 ∨ k = 3 ∨ k = 4 ∨ k = 5 from by omega) with rfl | rfl | rfl | rfl | rfl
    · have e1 := cell_below' (i := 1) hbw d1 (by omega)
      clear d1 d2 d3 d4 c0 c1 c2
      go_wp2_with (first | (go_at_call 105; refine (kind1_any a (hi a) (lo a) _ _ _ _ (by omega) (by omega) (by omega) g0 g1 g2 ph pl).mono ?_; rw [← tk1]; rintro e w2 ⟨rfl, hb2⟩))
      · have ht : tk a 1 = true := by assumption
        go_ret
        exact ⟨ret_int (kd_at hP.out (by omega) (by omega) ht).symm, hbe.trans (hb2.mono hbe.size)⟩
      · have ht : tk a 1 = false := by assumption
        go_roundw
        case rel => exact ⟨2, by omega, by omega, rfl, pre_step hP.out ht, hbw.trans (hb2.mono hbw.size)⟩
        case measure => simp [intOf]
    · have e1 := cell_below' (i := 2) hbw d2 (by omega)
      clear d1 d2 d3 d4 c0 c1 c2
      go_wp2_with (first | (go_at_call 108; refine (kind2_any a (lo a) _ _ _ (by omega) (by omega) g0 g2 pl).mono ?_; rw [← tk2]; rintro e w2 ⟨rfl, hb2⟩))
      · have ht : tk a 2 = true := by assumption
        go_ret
        exact ⟨ret_int (kd_at hP.out (by omega) (by omega) ht).symm, hbe.trans (hb2.mono hbe.size)⟩
      · have ht : tk a 2 = false := by assumption
        go_roundw
        case rel => exact ⟨3, by omega, by omega, rfl, pre_step hP.out ht, hbw.trans (hb2.mono hbw.size)⟩
        case measure => simp [intOf]
    · have e1 := cell_below' (i := 3) hbw d3 (by omega)
      clear d1 d2 d3 d4 c0 c1 c2
      go_wp2_with (first | (go_at_call 109; refine (kind3_any a (hi a) (lo a) _ _ _ _ (by omega) (by omega) (by omega) g0 g1 g2 ph pl).mono ?_; rw [← tk3]; rintro e w2 ⟨rfl, hb2⟩))
      · have ht : tk a 3 = true := by assumption
        go_ret
        exact ⟨ret_int (kd_at hP.out (by omega) (by omega) ht).symm, hbe.trans (hb2.mono hbe.size)⟩
      · have ht : tk a 3 = false := by assumption
        go_roundw
        case rel => exact ⟨4, by omega, by omega, rfl, pre_step hP.out ht, hbw.trans (hb2.mono hbw.size)⟩
        case measure => simp [intOf]
    · have e1 := cell_below' (i := 4) hbw d4 (by omega)
      clear d1 d2 d3 d4 c0 c1 c2
      go_wp2_with (first | (go_at_call 110; refine (kind4_any a (hi a) (lo a) _ _ _ _ (by omega) (by omega) (by omega) g0 g1 g2 ph pl).mono ?_; rw [← tk4]; rintro e w2 ⟨rfl, hb2⟩))
      · have ht : tk a 4 = true := by assumption
        go_ret
        exact ⟨ret_int (kd_at hP.out (by omega) (by omega) ht).symm, hbe.trans (hb2.mono hbe.size)⟩
      · have ht : tk a 4 = false := by assumption
        go_roundw
        case rel => exact ⟨5, by omega, by omega, rfl, pre_step hP.out ht, hbw.trans (hb2.mono hbw.size)⟩
        case measure => simp [intOf]
    · clear d1 d2 d3 d4 c0 c1 c2
      go_wp2_with fail
      go_ret
      exact ⟨ret_int (kd_none hP.out).symm, hbe⟩
theorem kd_bd (a : Int) : 0 ≤ kd a ∧ kd a ≤ 4 := by unfold kd; (repeat' split) <;> omega
def pa (a : Int) : Int := if kd a = 1 ∨ kd a = 2 then lo a else if kd a = 3 ∨ kd a = 4 then hi a else 0
def pb (a : Int) : Int := if kd a = 1 ∨ kd a = 2 then hi a else if kd a = 3 ∨ kd a = 4 then lo a else 0
theorem parts_any (a : Int) (h : Word a) (w : World) :
    Calls Try.prog 64 #[.int .u64 a] w fun e w' => e = .returned (.tuple #[.int .i64 (pa a), .int .i64 (pb a)]) ∧ Below w.heap.size w w' := by
  have hd := kd_bd a
  rcases (show kd a = 0 ∨ kd a = 1 ∨ kd a = 2 ∨ kd a = 3 ∨ kd a = 4 from by omega) with k | k | k | k | k
  all_goals
    have e1 := Lib.hid (show pa a = _ from rfl)
    unfold pa pb
    rw [k]
    clear hd e1
    go_enter Try.func64, Try.ntmps64
    go_wp2_with (first | (go_at_call 104; refine (halves_any _ h _).mono ?_; rintro e w' ⟨rfl, rfl⟩) | (go_at_call 65; refine (kind_any _ h _).mono ?_; rintro e w2 ⟨rfl, hb2⟩))
    go_ret2
    exact ⟨by simp, hb2⟩
end Go.Proofs.Ytbcbknajhdaneaa
