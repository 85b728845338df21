/- What is proved: contracts of the document's word and Text. -/
import Derived.Test.YtcfpnnkohjochaaDoorVaX
namespace Go.Proofs.YtcfpnnkohjochaaDoor
open Go.RowKit
set_option linter.unusedVariables false
set_option linter.unusedSimpArgs false
def digs : ByteArray := ⟨#[48, 49, 50, 51, 52, 53, 54, 55, 56, 57, 97, 98, 99, 100, 101, 102]⟩
theorem digs_cut : ∀ m : Nat, m < 16 → (⟨#[48, 49, 50, 51, 52, 53, 54, 55, 56, 57, 97, 98, 99, 100, 101, 102]⟩ : ByteArray).extract m (m + 1) = ⟨#[hxB m]⟩ := by
  intro m h
  rcases (show m = 0 ∨ m = 1 ∨ m = 2 ∨ m = 3 ∨ m = 4 ∨ m = 5 ∨ m = 6 ∨ m = 7 ∨ m = 8 ∨ m = 9 ∨ m = 10 ∨ m = 11 ∨ m = 12 ∨ m = 13 ∨ m = 14 ∨ m = 15 from by omega) with rfl | rfl | rfl | rfl | rfl | rfl | rfl | rfl | rfl | rfl | rfl | rfl | rfl | rfl | rfl | rfl <;> decide +kernel
set_option maxRecDepth 100000 in
set_option maxHeartbeats 2000000 in
theorem rword_any (n : Nat) (hn : n < 18446744073709551616) (w : World) : Calls Tryd.prog 34 #[.int .u64 (n : Int)] w fun e w' => e = .returned (.string ⟨(hexL n).toArray⟩) ∧ w = w' := by
  induction n using Nat.strongRecOn with
  | _ n ih =>
    have hc := digs_cut (n % 16) (by omega)
    by_cases h : n < 16
    · have t : decide (16 ≤ (n : Int)) = false := decide_eq_false (by omega)
      have hf := Lib.hid (hexL_lt h)
      clear ih
      go_enter Tryd.func34, Tryd.ntmps34
      go_wp2_with fail
      go_ret
      exact ⟨by rw [hf.out, hc, Nat.mod_eq_of_lt h]; rfl, rfl⟩
    · have t : decide (16 ≤ (n : Int)) = true := decide_eq_true (by omega)
      have hf := Lib.hid (hexL_ge h)
      have ci := fun W : World => ih (n / 16) (by omega) (by omega)
      obtain ⟨T, hT⟩ : ∃ T : ByteArray, (⟨(hexL (n / 16)).toArray⟩ : ByteArray) = T := ⟨_, rfl⟩
      have hs : T.size ≤ 16 := by
        rw [← hT]
        have := hexL_len 15 (n / 16) (by omega)
        rw [ba_size]; exact this
      have ci := ih (n / 16) (by omega) (by omega)
      rw [hT, show ((n / 16 : Nat) : Int) = (n : Int) / 16 by omega] at ci
      have HT := Lib.hid hT
      have HC := Lib.hid hc
      have hs2 : ((⟨#[48, 49, 50, 51, 52, 53, 54, 55, 56, 57, 97, 98, 99, 100, 101, 102]⟩ : ByteArray).extract (n % 16) (n % 16 + 1)).size = 1 := by rw [hc]; rfl
      clear ih hT hc
      go_enter Tryd.func34, Tryd.ntmps34
      go_wp2_with (first
        | (go_at_call 34; ((with_reducible refine ci.mono ?_); rintro e w1 ⟨rfl, rfl⟩))
        | fail)
      go_ret
      refine ⟨?_, rfl⟩
      rw [hf.out, HC.out, ← HT.out]
      congr 2
theorem rword_w (x : Int) (hx : Word x) (w : World) : Calls Tryd.prog 34 #[.int .u64 x] w fun e w' => e = .returned (.string ⟨(hexL x.toNat).toArray⟩) ∧ w = w' := by
  have h := rword_any x.toNat (by have := hx.2; omega) w
  rw [show ((x.toNat : Nat) : Int) = x from by have := hx.1; omega] at h
  exact h
theorem joinV_nil : joinV [] = [] := by unfold joinV; rw [List.map_nil, Lib.join_nil]
theorem joinV_snoc : ∀ (y : Int) (l : List Int) (x : Int), joinV (y :: l ++ [x]) = joinV (y :: l) ++ 44 :: hexL x.toNat
  | y, [], x => by rw [List.cons_append, List.nil_append, joinV_two, joinV_one, joinV_one]
  | y, z :: l, x => by
    rw [List.cons_append, List.cons_append, joinV_two, ← List.cons_append, joinV_snoc z l x, joinV_two, List.append_assoc, List.cons_append]
theorem ba_app (a b : List UInt8) : (⟨a.toArray⟩ : ByteArray) ++ ⟨b.toArray⟩ = ⟨(a ++ b).toArray⟩ := by apply ByteArray.ext; simp
theorem joinV_step {l : List Int} {k : Nat} {x : Int} (h : l[k]? = some x) : joinV (l.take (k + 1)) = if k = 0 then hexL x.toNat else joinV (l.take k) ++ [44] ++ hexL x.toNat := by
  rw [take_snoc h]
  by_cases h0 : k = 0
  · rw [if_pos h0, h0, List.take_zero, List.nil_append, joinV_one]
  · rw [if_neg h0]
    have hl : k < l.length := (List.getElem?_eq_some_iff.1 h).1
    cases hh : l.take k with
    | nil => have := congrArg List.length hh; rw [List.length_take, List.length_nil] at this; omega
    | cons y m => rw [joinV_snoc]; simp
set_option maxRecDepth 100000 in
set_option maxHeartbeats 2000000 in
theorem rtext_any (A : Option Addr) (n c : Nat) (l : List Int) (hw : ∀ x ∈ l, Word x) (w : World) (hR : Reads w w.heap.size 1 A n (ids l)) (hn : n ≤ 4) :
    Calls Tryd.prog 13 #[.slice A n c] w fun e w' => e = .returned (.string ⟨(txtV l).toArray⟩) ∧ Below w.heap.size w w' := by
  have hl : l.length = n := by have := hR.1; rw [ids_len] at this; omega
  by_cases h0 : n = 0
  · subst h0
    have : l = [] := by cases l with | nil => rfl | cons _ _ => simp at hl
    subst this
    clear hR
    go_enter Tryd.func13, Tryd.ntmps13
    go_wp2_with fail
    go_ret
    exact ⟨rfl, Below.refl _ _⟩
  · have t0 : ((n : Int) == 0) = false := by simp; omega
    have e0 : txtV l = joinV l := by unfold txtV; rw [if_neg (fun e => by rw [e] at hl; simp at hl; omega)]
    have E0 := Lib.hid e0
    have HL := Lib.hid hl
    clear e0 hl
    go_enter Tryd.func13, Tryd.ntmps13
    go_wp2_with fail
    go_loopw [3, 11] (fun o i wr => ∃ (k : Nat) (T : ByteArray), k ≤ n ∧ i = .int .i64 k ∧ o = .string T ∧ T = ⟨(joinV (l.take k)).toArray⟩ ∧ T.size ≤ 100 ∧ wr = w)
      (fun o i _ => n - (intOf i).toNat)
    case atStart => exact ⟨0, ⟨#[]⟩, Nat.zero_le _, rfl, rfl, by rw [List.take_zero, joinV_nil], by decide, rfl⟩
    case round =>
      obtain ⟨k, T, hk, rfl, rfl, hT, hTs, rfl⟩ := hrel
      by_cases hlt : k < n
      · have e1 := List.getElem?_eq_getElem (l := l) (i := k) (by have := HL.out; omega)
        generalize l[k]'(by have := HL.out; omega) = x at e1
        obtain ⟨p, off, rfl, hbl, g⟩ := ids_cell hR e1
        have cx := rword_w x (hw x (List.mem_of_getElem? e1)) wr
        have hxl := hexS_len (hw x (List.mem_of_getElem? e1))
        have hst := Lib.hid (joinV_step e1)
        have hlen := joinV_len (l.take (k + 1)) (fun y hy => hw y (List.mem_of_mem_take hy))
        rw [List.length_take, HL.out, hst.out] at hlen
        obtain ⟨X, hX⟩ : ∃ X : ByteArray, (⟨(hexL x.toNat).toArray⟩ : ByteArray) = X := ⟨_, rfl⟩
        have hXs : X.size ≤ 16 := by rw [← hX, ba_size]; exact hxl
        rw [hX] at cx
        have HX := Lib.hid hX
        have HT := Lib.hid hT
        have HR := Lib.hid hR
        have hw' := Lib.hid hw
        have hlen := Lib.hid hlen
        clear hX hT hR hw e1 hxl
        by_cases hk0 : k = 0
        · subst hk0
          have hTn : T = ⟨#[]⟩ := by rw [HT.out, List.take_zero, joinV_nil]
          subst hTn
          rw [Nat.add_zero] at g
          go_wp2_with (first
            | (go_at_call 34; ((with_reducible refine cx.mono ?_); rintro e w1 ⟨rfl, rfl⟩))
            | fail)
          go_roundw
          case rel => exact ⟨1, _, by omega, by go_num, rfl, by rw [hst.out, ← HX.out]; simp only [if_true]; apply ByteArray.ext; simp, by have q : (⟨#[]⟩ : ByteArray).size = 0 := rfl; rw [ByteArray.size_append]; omega, by trivial⟩
          case measure => simp [intOf]; omega
        · have t1 : decide (0 < (k : Int)) = true := decide_eq_true (by omega)
          have hlen2 : (joinV (l.take k) ++ [44] ++ hexL x.toNat).length ≤ 17 * min (k + 1) n := by
            have := hlen.out; rw [if_neg hk0] at this; exact this
          have hsz : T.size + 1 + X.size ≤ 68 := by
            rw [HT.out, ← HX.out, ba_size, ba_size]
            simp only [List.length_append, List.length_cons, List.length_nil] at hlen2
            omega
          clear hlen2
          go_wp2_with (first
            | (go_at_call 34; ((with_reducible refine cx.mono ?_); rintro e w1 ⟨rfl, rfl⟩))
            | fail)
          go_roundw
          case rel =>
            refine ⟨k + 1, _, by omega, by go_num, rfl, ?_, ?_, by trivial⟩
            · rw [hst.out, if_neg hk0, ← HX.out, HT.out, ← ba_app, ← ba_app]
            · have q : (⟨#[44]⟩ : ByteArray).size = 1 := rfl
              rw [ByteArray.size_append, ByteArray.size_append]
              omega
          case measure => simp [intOf]; omega
      · have hkn : k = n := by omega
        have hf : T = ⟨(txtV l).toArray⟩ := by rw [hT, E0.out, List.take_of_length_le (by have := HL.out; omega)]
        have HF := Lib.hid hf
        clear hT hf hR hw
        go_wp2_with fail
        try rw [Exit.noGoto_ret]
        go_ret
        exact ⟨by rw [← HF.out]; rfl, Below.refl _ _⟩
end Go.Proofs.YtcfpnnkohjochaaDoor
