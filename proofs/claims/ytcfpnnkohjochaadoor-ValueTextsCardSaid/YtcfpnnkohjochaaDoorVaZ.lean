/- What is proved: the document's Read (plain): how it goes on from a part. -/
import Derived.Test.YtcfpnnkohjochaaDoorVaY
namespace Go.Proofs.YtcfpnnkohjochaaDoor
open Go.RowKit
set_option linter.unusedVariables false
set_option linter.unusedSimpArgs false
/-- the words of a text -/
def wdsL (l : List UInt8) : Option (List Int) := wordsL (cutC l)
theorem wordsL_cons (p : List UInt8) (ps : List (List UInt8)) : wordsL (p :: ps) = match wordP p, wordsL ps with | some x, some xs => some (x :: xs) | _, _ => none := rfl
theorem wordP_nil : wordP [] = none := by
  cases h : wordP [] with
  | none => rfl
  | some x => exact absurd rfl (wordP_val h).2.1
theorem wds_comma {p r : List UInt8} (hp : ∀ c ∈ p, c ≠ 44) {x : Int} (h : wordP p = some x) : wdsL (p ++ 44 :: r) = (wdsL r).map (fun ys => x :: ys) := by
  unfold wdsL
  rw [cutC_app p r hp, wordsL_cons, h]
  cases wordsL (cutC r) <;> rfl
theorem wds_comma_no (r : List UInt8) : wdsL (44 :: r) = none := by
  have := cutC_app [] r (by simp)
  unfold wdsL
  rw [List.nil_append] at this
  rw [this, wordsL_cons, wordP_nil]
theorem wds_end {p : List UInt8} (hp : ∀ c ∈ p, c ≠ 44) {x : Int} (h : wordP p = some x) : wdsL p = some [x] := by
  unfold wdsL
  rw [cutC_plain p hp, wordsL_cons, h]
  rfl
theorem wds_nil : wdsL [] = none := by
  unfold wdsL
  rw [cutC_plain [] (by simp), wordsL_cons, wordP_nil]
theorem cut_first : ∀ (p : List UInt8) (c : UInt8) (r : List UInt8), (∀ d ∈ p, d ≠ 44) → c ≠ 44 → ∃ q ps, cutC (p ++ c :: r) = (p ++ c :: q) :: ps
  | [], c, r, _, hc => by
    obtain ⟨q, ps, h⟩ := cutC_cons r
    exact ⟨q, ps, by rw [List.nil_append, cutC_eq, if_neg hc, h]; rfl⟩
  | d :: p, c, r, hp, hc => by
    obtain ⟨q, ps, h⟩ := cut_first p c r (fun e he => hp e (List.mem_cons_of_mem _ he)) hc
    exact ⟨q, ps, by rw [List.cons_append, cutC_eq, if_neg (hp d (List.mem_cons_self ..)), h]; rfl⟩
theorem wds_no {p : List UInt8} {c : UInt8} {r : List UInt8} (hp : ∀ d ∈ p, d ≠ 44) (hc : c ≠ 44) (h : ∀ q, wordP (p ++ c :: q) = none) : wdsL (p ++ c :: r) = none := by
  obtain ⟨q, ps, e⟩ := cut_first p c r hp hc
  unfold wdsL
  rw [e, wordsL_cons, h q]
theorem bad_hex {p : List UInt8} {c : UInt8} (h : isHex c = false) (q : List UInt8) : wordP (p ++ c :: q) = none := by
  cases e : wordP (p ++ c :: q) with
  | none => rfl
  | some x =>
    have := List.all_eq_true.1 (wordP_val e).1 c (by simp)
    rw [h] at this; cases this
theorem bad_long {p : List UInt8} {c : UInt8} (h : p.length = 16) (q : List UInt8) : wordP (p ++ c :: q) = none := by
  cases e : wordP (p ++ c :: q) with
  | none => rfl
  | some x =>
    have h1 := hexS_len (wordP_word e)
    rw [hex_word e, List.length_append, List.length_cons] at h1
    omega
theorem bad_zero {c : UInt8} (q : List UInt8) : wordP ([48] ++ c :: q) = none := by
  cases e : wordP ([48] ++ c :: q) with
  | none => rfl
  | some x =>
    have h1 := (wordP_val e).2.2.1
    unfold noZero at h1
    simp at h1
/-- a part that may go on -/
structure Part (p : List UInt8) (n m : Nat) : Prop where
  hex : p.all isHex = true
  len : p.length = m
  few : m ≤ 16
  val : n = val 0 p
  zero : 2 ≤ m → p.head? ≠ some 48
theorem Part.nil : Part [] 0 0 := ⟨rfl, rfl, by omega, rfl, by omega⟩
theorem Part.noComma {p : List UInt8} {n m : Nat} (h : Part p n m) : ∀ c ∈ p, c ≠ 44 := by
  intro c hc e
  subst e
  have := List.all_eq_true.1 h.hex 44 hc
  revert this; decide
theorem Part.lt {p : List UInt8} {n m : Nat} (h : Part p n m) : n < 16 ^ m := by
  have := val_lt p 0 0 h.hex (by simp)
  rw [h.val, ← h.len]; simpa using this
theorem Part.step {p : List UInt8} {n m : Nat} {c : UInt8} (h : Part p n m) (hc : isHex c = true) (h16 : m ≠ 16) (h0 : ¬ (m = 1 ∧ n = 0)) : Part (p ++ [c]) (16 * n + dv c) (m + 1) := by
  refine ⟨by rw [List.all_append, h.hex]; simp [hc], by rw [List.length_append, h.len]; rfl, by have := h.few; omega, by rw [val_snoc, h.val]; omega, fun h2 => ?_⟩
  cases p with
  | nil => have := h.len; simp at this; omega
  | cons a b =>
    rw [List.cons_append, List.head?_cons]
    intro e
    have ea : a = 48 := by injection e
    by_cases hm : 2 ≤ m
    · exact h.zero hm (by rw [ea]; rfl)
    · have hb : b = [] := by
        have := h.len; rw [List.length_cons] at this
        exact List.eq_nil_of_length_eq_zero (by omega)
      subst hb
      refine h0 ⟨by have := h.len; simpa using this.symm, ?_⟩
      rw [h.val, ea]; rfl
theorem Part.fits {p : List UInt8} {n m : Nat} {c : UInt8} (h : Part p n m) (hc : isHex c = true) (h16 : m ≠ 16) : 16 * n + dv c < 18446744073709551616 := by
  have h1 := h.lt
  have h2 := h.few
  have h3 := dv_lt hc
  have h4 : 16 ^ m ≤ 16 ^ 15 := Nat.pow_le_pow_right (by omega) (by omega)
  have h5 : (16 : Nat) ^ 15 = 1152921504606846976 := by decide
  omega
theorem Part.u64 {p : List UInt8} {n m : Nat} (h : Part p n m) : n < 18446744073709551616 := by
  have h1 := h.lt
  have h2 := h.few
  have h4 : 16 ^ m ≤ 16 ^ 16 := Nat.pow_le_pow_right (by omega) h2
  have h5 : (16 : Nat) ^ 16 = 18446744073709551616 := by decide
  omega
theorem Part.word {p : List UInt8} {n m : Nat} (h : Part p n m) (hm : m ≠ 0) : wordP p = some (n : Int) := by
  have hne : p ≠ [] := fun e => hm (by rw [← h.len, e]; rfl)
  have hp : pu16 0 p = some n := by
    have := pu16_val p 0 0 h.hex (by simp) (by have := h.len; have := h.few; omega) []
    rw [List.append_nil, ← h.val] at this
    exact this
  have hz : noZero p = true := by
    unfold noZero
    by_cases h2 : 2 ≤ m
    · simp [h.zero h2]
    · cases p with
      | nil => exact absurd rfl hne
      | cons a b =>
        have hb : b = [] := by
          have := h.len; rw [List.length_cons] at this
          exact List.eq_nil_of_length_eq_zero (by omega)
        subst hb
        by_cases ha : a = 48
        · simp [ha]
        · simp [ha]
  unfold wordP puR
  rw [if_pos h.hex, if_neg hne, hp]
  simp [hz]
theorem Part.empty {p : List UInt8} {n : Nat} (h : Part p n 0) : p = [] := List.eq_nil_of_length_eq_zero h.len
theorem Part.one {p : List UInt8} (h : Part p 0 1) : p = [48] := by
  cases p with
  | nil => have := h.len; simp at this
  | cons a b =>
    have hb : b = [] := by
      have := h.len; rw [List.length_cons] at this
      exact List.eq_nil_of_length_eq_zero (by omega)
    subst hb
    have hah : isHex a = true := by have := h.hex; simpa using this
    have h1 : dv a = 0 := by have := h.val; simp [Go.Proofs.YtcfpnnkohjochaaDoor.val] at this; omega
    have := hxB_dv' a hah
    rw [h1] at this
    rw [← this]; rfl
theorem hx_is : ∀ (j : Fin 16) (c : Fin 256), ((((hxB j.val).toNat : Int) == ((c.val : Nat) : Int)) = (isHex (UInt8.ofNat c.val) && decide (dv (UInt8.ofNat c.val) = j.val))) := by decide +kernel
theorem hx_is' (j : Nat) (hj : j < 16) (c : UInt8) : (((hxB j).toNat : Int) == (c.toNat : Int)) = (isHex c && decide (dv c = j)) := by
  have := hx_is ⟨j, hj⟩ ⟨c.toNat, c.toNat_lt⟩
  simpa only [UInt8.ofNat_toNat] using this
theorem digs_at (m : Nat) (h : m < 16) (W : World) : (Instr.index 9 (.string ⟨#[48, 49, 50, 51, 52, 53, 54, 55, 56, 57, 97, 98, 99, 100, 101, 102]⟩) (.int .i64 (m : Int))).run Tryd.prog W = .ok (.int .u8 ((hxB m).toNat : Int)) W := by
  have hu := run_underlying (P := Tryd.prog) Tryd.underlying9
  rcases (show m = 0 ∨ m = 1 ∨ m = 2 ∨ m = 3 ∨ m = 4 ∨ m = 5 ∨ m = 6 ∨ m = 7 ∨ m = 8 ∨ m = 9 ∨ m = 10 ∨ m = 11 ∨ m = 12 ∨ m = 13 ∨ m = 14 ∨ m = 15 from by omega) with rfl | rfl | rfl | rfl | rfl | rfl | rfl | rfl | rfl | rfl | rfl | rfl | rfl | rfl | rfl | rfl <;> simp [Instr.index, hu, go_sem, hxB] <;> rfl
end Go.Proofs.YtcfpnnkohjochaaDoor
