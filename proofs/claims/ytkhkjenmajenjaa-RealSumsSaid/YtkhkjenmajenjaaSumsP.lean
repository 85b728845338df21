/- What is proved: plain laws of float sums: a NaN makes a sum none, so do both infinities, and a sum of one number is that number. -/
import Derived.Test.YtkhkjenmajenjaaRef
namespace Go.Proofs.Ytkhkjenmajenjaa
set_option linter.unusedVariables false
theorem fold_none (l : List Int) : l.foldl fadd none = none := by
  induction l with
  | nil => rfl
  | cons x l ih => exact ih
theorem fadd_nan (o : Option Nat) (x : Int) (h : Nan x.toNat) : fadd o x = none := by
  cases o with
  | none => rfl
  | some s => exact add_nan_right s _ h
theorem cls_Nan (x : Int) (hw : Word x) (h : cls x = 4) : Nan x.toNat := by
  have := (cls_nan x hw).1 h
  unfold Nan
  have := hw.1
  omega
theorem fold_nan (l : List Int) (hw : Words l) (x : Int) (hx : x ∈ l) (h : cls x = 4) : ∀ o, l.foldl fadd o = none := by
  induction l with
  | nil => cases hx
  | cons y l ih =>
    intro o
    simp only [List.foldl_cons]
    rcases List.mem_cons.1 hx with rfl | hx
    · rw [fadd_nan o x (cls_Nan x (hw x (List.mem_cons_self)) h)]
      exact fold_none l
    · exact ih (fun z hz => hw z (List.mem_cons_of_mem _ hz)) hx _
def infw (s : Bool) : Int := if s then 18442240474082181120 else 9218868437227405312
def infb (s : Bool) : Nat := if s then 18442240474082181120 else 9218868437227405312
theorem infw_nat (s : Bool) : (infw s).toNat = infb s := by cases s <;> rfl
theorem read_infb (s : Bool) : Ieee.double.read (infb s) = .infinity s := by
  cases s
  · exact read_inf _ (by decide)
  · exact read_inf _ (by decide)
theorem write_infb (s : Bool) : Ieee.double.write (.infinity s) = infb s := by cases s <;> decide
theorem fadd_inf (o : Option Nat) (s : Bool) : fadd o (infw s) = none ∨ fadd o (infw s) = some (infb s) := by
  cases o with
  | none => exact .inl rfl
  | some y =>
    show Ieee.double.add y (infw s).toNat = none ∨ Ieee.double.add y (infw s).toNat = some (infb s)
    rw [infw_nat]
    unfold Ieee.Format.add
    rw [read_infb]
    cases Ieee.double.read y with
    | nan => exact .inl rfl
    | infinity t =>
      simp only [Ieee.Datum.sum]
      split
      · rename_i h; subst h; right; simp [write_infb]
      · left; rfl
    | number => right; simp [Ieee.Datum.sum, write_infb]
theorem fadd_keeps (s : Bool) (x : Int) (hx : x ≠ infw (!s)) (hw : Word x) : fadd (some (infb s)) x = none ∨ fadd (some (infb s)) x = some (infb s) := by
  show Ieee.double.add (infb s) x.toNat = none ∨ Ieee.double.add (infb s) x.toNat = some (infb s)
  unfold Ieee.Format.add
  rw [read_infb]
  cases Ieee.double.read x.toNat with
  | nan => exact .inl rfl
  | infinity t =>
    simp only [Ieee.Datum.sum]
    split
    · right; simp [write_infb]
    · left; rfl
  | number => right; simp [Ieee.Datum.sum, write_infb]
theorem fadd_opp (s : Bool) : fadd (some (infb s)) (infw (!s)) = none := by
  show Ieee.double.add (infb s) (infw (!s)).toNat = none
  rw [infw_nat]
  unfold Ieee.Format.add
  rw [read_infb, read_infb]
  cases s <;> rfl
theorem fold_inf (s : Bool) (l : List Int) (hw : Words l) (h : infw (!s) ∈ l) : l.foldl fadd (some (infb s)) = none := by
  induction l with
  | nil => cases h
  | cons y l ih =>
    simp only [List.foldl_cons]
    by_cases hy : y = infw (!s)
    · subst hy; rw [fadd_opp]; exact fold_none l
    · rcases List.mem_cons.1 h with h | h
      · exact absurd h.symm hy
      · rcases fadd_keeps s y hy (hw y List.mem_cons_self) with e | e <;> rw [e]
        · exact fold_none l
        · exact ih (fun z hz => hw z (List.mem_cons_of_mem _ hz)) h
theorem fold_both (l : List Int) (hw : Words l) (h1 : infw false ∈ l) (h2 : infw true ∈ l) : ∀ o, l.foldl fadd o = none := by
  induction l with
  | nil => cases h1
  | cons y l ih =>
    intro o
    have hw2 : Words l := fun z hz => hw z (List.mem_cons_of_mem _ hz)
    simp only [List.foldl_cons]
    rcases List.mem_cons.1 h1 with e1 | e1
    · rcases List.mem_cons.1 h2 with e2 | e2
      · rw [← e1] at e2; exact absurd e2 (by decide)
      · rw [← e1]
        rcases fadd_inf o false with e | e <;> rw [e]
        · exact fold_none l
        · exact fold_inf false l hw2 e2
    · rcases List.mem_cons.1 h2 with e2 | e2
      · rw [← e2]
        rcases fadd_inf o true with e | e <;> rw [e]
        · exact fold_none l
        · exact fold_inf true l hw2 e1
      · exact ih hw2 e1 e2 _
theorem cut_zero (neg : Bool) (n : Nat) : Ieee.Toward.even.cut neg n 0 = n := by
  unfold Ieee.Toward.cut
  simp [Nat.mod_one]
theorem cut_exact (neg : Bool) (m j : Nat) (hm : 0 < m) : Ieee.Toward.even.cut neg (m * 2 ^ j) j = m := by
  have hp := Nat.two_pow_pos j
  have hlog : j ≤ (m * 2 ^ j).log2 := by
    rw [Nat.le_log2 (by have := Nat.mul_pos hm hp; omega)]
    exact Nat.le_mul_of_pos_left _ hm
  unfold Ieee.Toward.cut
  have e : min j ((m * 2 ^ j).log2 + 2) = j := by omega
  simp only [e, Nat.shiftLeft_eq, Nat.one_mul, Nat.mul_div_cancel _ hp, Nat.mul_mod_left]
  have h1 : ¬ (2 ^ j < 2 * 0) := by omega
  have h2 : (2 ^ j == 2 * 0) = false := beq_eq_false_iff_ne.2 (by omega)
  simp [h2]
theorem rung_back (k : Nat) (hb : ¬ k < 4503599627370496) (hk : k < 9218868437227405312) : min ((k / 4503599627370496 - 1) * 4503599627370496 + (4503599627370496 + k % 4503599627370496)) 9218868437227405312 = k := by
  omega
theorem rung_low (k : Nat) (hb : k < 4503599627370496) : min (0 * 4503599627370496 + k) 9218868437227405312 = k := by
  omega
theorem nearest_exact (neg : Bool) (k : Nat) (hk : k < 9218868437227405312) : Ieee.double.nearest neg (mval k) (-1074) = Ieee.double.word neg k := by
  have e1 : Ieee.double.binade = 4503599627370496 := by decide
  have e2 : Ieee.double.infRung = 9218868437227405312 := by decide
  have e3 : Ieee.double.leastPlace = -1074 := by decide
  have e4 : Ieee.double.fractionBits = 52 := rfl
  by_cases h0 : k = 0
  · subst h0
    rw [mval_zero]; unfold Ieee.Format.nearest; simp
  · have hpos : 0 < mval k := by have := mval_mono (a := 0) (b := k) (by omega); rwa [mval_zero] at this
    unfold Ieee.Format.nearest
    rw [if_neg (by omega)]
    simp only [e1, e2, e3, e4]
    by_cases hb : k < 4503599627370496
    · have em : mval k = k := by unfold mval; rw [if_pos hb]
      rw [em]
      have hlog : k.log2 < 52 := (Nat.log2_lt h0).2 (by omega)
      have el : max ((-1074 : Int) + (k.log2 : Nat) - (52 : Nat)) (-1074) = -1074 := by omega
      rw [el]
      rw [show ((-1074 : Int) - -1074).toNat = 0 from rfl, Nat.shiftLeft_zero, cut_zero, rung_low k hb]
    · have em : mval k = (4503599627370496 + k % 4503599627370496) * 2 ^ (k / 4503599627370496 - 1) := by unfold mval; rw [if_neg hb]
      have hlog : (mval k).log2 = 52 + (k / 4503599627370496 - 1) := by
        rw [em]
        generalize k / 4503599627370496 - 1 = j
        have hp := Nat.two_pow_pos j
        have hne : (4503599627370496 + k % 4503599627370496) * 2 ^ j ≠ 0 := by
          have := Nat.mul_pos (show 0 < 4503599627370496 + k % 4503599627370496 by omega) hp; omega
        apply Nat.le_antisymm
        · apply Nat.le_of_lt_succ
          rw [Nat.log2_lt hne, show (52 + j).succ = 53 + j from by omega, Nat.pow_add]
          exact Nat.mul_lt_mul_of_pos_right (by have : (2:Nat)^53 = 9007199254740992 := by decide
                                                omega) hp
        · rw [Nat.le_log2 hne, Nat.pow_add]
          exact Nat.mul_le_mul_right _ (by have : (2:Nat)^52 = 4503599627370496 := by decide
                                           omega)
      rw [hlog]
      have hE : 1 ≤ k / 4503599627370496 := by omega
      have el : max ((-1074 : Int) + ((52 + (k / 4503599627370496 - 1) : Nat) : Int) - (52 : Nat)) (-1074) = -1074 + ((k / 4503599627370496 - 1 : Nat) : Int) := by omega
      rw [el]
      have f1 : ((-1074 : Int) - (-1074 + ((k / 4503599627370496 - 1 : Nat) : Int))).toNat = 0 := by omega
      have f2 : ((-1074 + ((k / 4503599627370496 - 1 : Nat) : Int)) - (-1074 : Int)).toNat = k / 4503599627370496 - 1 := by omega
      rw [f1, f2, em, Nat.shiftLeft_zero, cut_exact _ _ _ (by omega), rung_back k hb hk]
theorem add_zero_fin (x : Nat) (hx : x < 18446744073709551616) (h : x % 9223372036854775808 < 9218868437227405312) : ∃ r, FloatKind.f64.format.add 0 x = some r ∧ r < 18446744073709551616 ∧ r % 9223372036854775808 < 9218868437227405312 ∧ rank r = rank x := by
  have hz : Ieee.double.read 0 = .number false 0 (-1074) := by
    have := read_fin 0 (by omega)
    exact this
  have hr : Ieee.double.read x = _ := read_fin x h
  show ∃ r, Ieee.double.add 0 x = some r ∧ _
  unfold Ieee.Format.add
  rw [hz, hr]
  generalize hk : x % 9223372036854775808 = k at *
  generalize hs : (x / 9223372036854775808 % 2 == 1) = s
  simp only [Ieee.Datum.sum, Option.map_some]
  have b1 : min (-1074 : Int) (-1074 + (up k : Nat)) = -1074 := by omega
  have b2 : ((-1074 : Int) + (up k : Nat) - (-1074)).toNat = up k := by omega
  have b3 : ((-1074 : Int) - (-1074)).toNat = 0 := by omega
  rw [b1, b2, b3, signed_up]
  have s0 : Ieee.signed false 0 0 = 0 := by decide
  rw [s0, Int.zero_add]
  have sw : Ieee.double.signWeight = 9223372036854775808 := by decide
  have rkx : rank x = if s then -(k : Int) else (k : Int) := by
    unfold rank
    rw [hs, hk]
  by_cases h0 : k = 0
  · refine ⟨_, rfl, ?_⟩
    have m0 : mval k = 0 := by rw [h0]; exact mval_zero
    rw [m0]
    have e : Ieee.double.write (Ieee.Datum.number (if (if s = true then -((0 : Nat) : Int) else ((0 : Nat) : Int)) = 0 then false && s else decide ((if s = true then -((0 : Nat) : Int) else ((0 : Nat) : Int)) < 0)) (if s = true then -((0 : Nat) : Int) else ((0 : Nat) : Int)).natAbs (-1074)) = 0 := by
      cases s <;> decide
    rw [e]
    refine ⟨by omega, by omega, ?_⟩
    rw [rkx, h0]
    cases s <;> decide
  · have hpos : 0 < mval k := by have := mval_mono (a := 0) (b := k) (by omega); rwa [mval_zero] at this
    have key : Ieee.double.write (Ieee.Datum.number (if (if s = true then -(mval k : Int) else (mval k : Int)) = 0 then false && s else decide ((if s = true then -(mval k : Int) else (mval k : Int)) < 0)) (if s = true then -(mval k : Int) else (mval k : Int)).natAbs (-1074)) = Ieee.double.word s k := by
      rw [if_neg (by split <;> omega)]
      have n1 : (if s = true then -(mval k : Int) else (mval k : Int)).natAbs = mval k := by split <;> omega
      have n2 : decide ((if s = true then -(mval k : Int) else (mval k : Int)) < 0) = s := by
        cases s
        · simp
        · simp; omega
      rw [n1, n2]
      exact nearest_exact s k h
    refine ⟨_, rfl, ?_⟩
    rw [key]
    unfold Ieee.Format.word
    rw [sw]
    have hlt : k < 9218868437227405312 := h
    cases s
    · simp only [Bool.false_eq_true, if_false]
      refine ⟨by omega, by omega, ?_⟩
      rw [rkx]
      unfold rank
      rw [if_neg (by rw [beq_iff_eq]; omega)]
      simp; omega
    · simp only [if_true]
      refine ⟨by omega, by omega, ?_⟩
      rw [rkx]
      unfold rank
      rw [if_pos (by rw [beq_iff_eq]; omega)]
      simp; omega
end Go.Proofs.Ytkhkjenmajenjaa
