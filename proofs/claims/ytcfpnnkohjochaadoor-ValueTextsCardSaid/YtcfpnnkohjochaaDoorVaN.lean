/- What is proved: plain laws of texts of values: cut at the commas; a word and its numeral. -/
import Derived.Test.YtcfpnnkohjochaaDoorVaM
namespace Go.Proofs.YtcfpnnkohjochaaDoor
open Go.RowKit
set_option linter.unusedVariables false
set_option linter.unusedSimpArgs false
/-- a text, cut at the commas -/
def cutC : List UInt8 → List (List UInt8)
  | [] => [[]]
  | c :: l => if c = 44 then [] :: cutC l else match cutC l with | p :: ps => (c :: p) :: ps | [] => [[c]]
theorem cutC_cons : ∀ l : List UInt8, ∃ p ps, cutC l = p :: ps
  | [] => ⟨[], [], rfl⟩
  | c :: l => by
    unfold cutC
    split
    · exact ⟨_, _, rfl⟩
    · obtain ⟨p, ps, h⟩ := cutC_cons l
      rw [h]
      exact ⟨_, _, rfl⟩
theorem splitK_cut : ∀ l : List UInt8, Lib.splitK [44] 0 (l.count 44) l = cutC l
  | [] => rfl
  | c :: l => by
    have ih := splitK_cut l
    by_cases h : c = 44
    · subst h
      rw [List.count_cons_self]
      have hi : Lib.index (44 :: l) [44] = 0 := by rw [Lib.index_one]; rfl
      unfold Lib.splitK cutC
      rw [hi]
      simp [ih]
    · have hcnt : (c :: l).count 44 = l.count 44 := List.count_cons_of_ne h
      rw [hcnt]
      have hi : Lib.index (c :: l) [44] = if Lib.index l [44] == -1 then -1 else Lib.index l [44] + 1 := by
        rw [Lib.index_one, Lib.index_one]
        have hb : (c == 44) = false := by simpa using h
        show (if c == 44 then 0 else if Lib.indexByte l 44 == -1 then -1 else Lib.indexByte l 44 + 1) = _
        rw [hb]; rfl
      unfold cutC
      rw [if_neg h, ← ih]
      cases hk : l.count 44 with
      | zero => rfl
      | succ k =>
        have hne : Lib.indexByte l 44 ≠ -1 := by
          intro e
          have := Lib.indexByte_none e
          have hm : (44 : UInt8) ∈ l := List.count_pos_iff.1 (by omega)
          obtain ⟨j, hj⟩ := List.mem_iff_getElem?.1 hm
          exact this j hj
        have hge := Lib.indexByte_ge l 44
        obtain ⟨i, hi2⟩ : ∃ i : Nat, Lib.indexByte l 44 = i := ⟨(Lib.indexByte l 44).toNat, by omega⟩
        have e1 : Lib.index l [44] = i := by rw [Lib.index_one, hi2]
        have e2 : Lib.index (c :: l) [44] = ((i + 1 : Nat) : Int) := by
          rw [hi, e1]
          have : ((i : Int) == -1) = false := by simp <;> omega
          rw [this]; simp
        unfold Lib.splitK
        rw [e1, e2]
        have b1 : ((i : Int) == -1) = false := by simp <;> omega
        have b2 : (((i + 1 : Nat) : Int) == -1) = false := by simp <;> omega
        rw [b1, b2]
        simp
theorem partsB_cut (s : ByteArray) : (partsB s).map (·.data.toList) = cutC s.data.toList := by
  unfold partsB
  rw [Lib.splitB_data]
  have : Lib.countB s ⟨#[44]⟩ = s.data.toList.count 44 := by
    show Lib.count s.data.toList [44] = _
    exact Lib.count_one 44 _
  rw [this]
  exact splitK_cut _
def wordsL : List (List UInt8) → Option (List Int)
  | [] => some []
  | p :: ps => match wordP p, wordsL ps with | some x, some xs => some (x :: xs) | _, _ => none
theorem wordsP_L : ∀ ps : List ByteArray, wordsP ps = wordsL (ps.map (·.data.toList))
  | [] => rfl
  | p :: ps => by
    show (match wordP p.data.toList, wordsP ps with | some x, some xs => some (x :: xs) | _, _ => none) = (match wordP p.data.toList, wordsL (ps.map (·.data.toList)) with | some x, some xs => some (x :: xs) | _, _ => none)
    rw [wordsP_L ps]
/-- the value of a text; none: it is none's -/
def readL (l : List UInt8) : Option (List Int) := if l = [45] then some [] else (match wordsL (cutC l) with | some xs => if xs.length ≤ 4 then some xs else none | none => none)
theorem readP_L (s : ByteArray) : readP s = readL s.data.toList := by
  unfold readP readL
  rw [wordsP_L, partsB_cut]
  rfl
/-- the number that digits say -/
def val (acc : Nat) (l : List UInt8) : Nat := l.foldl (fun a c => a * 16 + dv c) acc
theorem val_cons (acc : Nat) (c : UInt8) (l : List UInt8) : val acc (c :: l) = val (acc * 16 + dv c) l := rfl
theorem val_snoc (acc : Nat) (l : List UInt8) (c : UInt8) : val acc (l ++ [c]) = val acc l * 16 + dv c := by unfold val; rw [List.foldl_append]; rfl
theorem val_lt : ∀ (l : List UInt8) (acc k : Nat), l.all isHex = true → acc < 16 ^ k → val acc l < 16 ^ (k + l.length)
  | [], acc, k, _, h => by simpa [val] using h
  | c :: l, acc, k, ha, h => by
    simp only [List.all_cons, Bool.and_eq_true] at ha
    have := val_lt l (acc * 16 + dv c) (k + 1) ha.2 (by have := dv_lt ha.1; rw [Nat.pow_succ]; omega)
    rw [val_cons, List.length_cons]
    rw [show k + (l.length + 1) = k + 1 + l.length from by omega]
    exact this
theorem val_ge : ∀ (l : List UInt8) (acc k : Nat), 16 ^ k ≤ acc → 16 ^ (k + l.length) ≤ val acc l
  | [], acc, k, h => by simpa [val] using h
  | c :: l, acc, k, h => by
    have := val_ge l (acc * 16 + dv c) (k + 1) (by rw [Nat.pow_succ]; omega)
    rw [val_cons, List.length_cons, show k + (l.length + 1) = k + 1 + l.length from by omega]
    exact this
/-- so long as it is not too great the number is read -/
theorem pu16_val : ∀ (l : List UInt8) (acc k : Nat), l.all isHex = true → acc < 16 ^ k → k + l.length ≤ 16 → ∀ r, pu16 acc (l ++ r) = pu16 (val acc l) r
  | [], acc, k, _, _, _, r => rfl
  | c :: l, acc, k, ha, h, hk, r => by
    simp only [List.all_cons, Bool.and_eq_true] at ha
    rw [List.length_cons] at hk
    have h15 : 16 ^ k ≤ 16 ^ 15 := Nat.pow_le_pow_right (by omega) (by omega)
    have e : pu16 acc ((c :: l) ++ r) = if 1152921504606846976 ≤ acc then none else pu16 (acc * 16 + dv c) (l ++ r) := rfl
    rw [e, if_neg (by omega), val_cons]
    exact pu16_val l _ (k + 1) ha.2 (by have := dv_lt ha.1; rw [Nat.pow_succ]; omega) (by omega) r
theorem hxB_hex : ∀ n : Fin 16, isHex (hxB n.val) = true ∧ dv (hxB n.val) = n.val ∧ (hxB n.val = 48 ↔ n.val = 0) := by decide +kernel
theorem hxB_dv : ∀ c : Fin 256, isHex (UInt8.ofNat c.val) = true → hxB (dv (UInt8.ofNat c.val)) = UInt8.ofNat c.val := by decide +kernel
theorem hxB_dv' (c : UInt8) (h : isHex c = true) : hxB (dv c) = c := by
  have := hxB_dv ⟨c.toNat, c.toNat_lt⟩
  simp only [UInt8.ofNat_toNat] at this
  exact this h
theorem hexL_all (n : Nat) : (hexL n).all isHex = true := by
  induction n using Nat.strongRecOn with
  | _ n ih =>
    by_cases h : n < 16
    · rw [hexL_lt h]; simp [(hxB_hex ⟨n, h⟩).1]
    · rw [hexL_ge h, List.all_append, ih (n / 16) (by omega)]
      simp [(hxB_hex ⟨n % 16, by omega⟩).1]
theorem hexL_val (n : Nat) : val 0 (hexL n) = n := by
  induction n using Nat.strongRecOn with
  | _ n ih =>
    by_cases h : n < 16
    · rw [hexL_lt h]
      have := (hxB_hex ⟨n, h⟩).2.1
      dsimp only at this
      simp only [val, List.foldl_cons, List.foldl_nil]
      omega
    · rw [hexL_ge h, val_snoc, ih (n / 16) (by omega)]
      have := (hxB_hex ⟨n % 16, by omega⟩).2.1
      dsimp only at this
      omega
theorem hexL_ne (n : Nat) : hexL n ≠ [] := by
  by_cases h : n < 16
  · rw [hexL_lt h]; simp
  · rw [hexL_ge h]; simp
theorem hexL_head (n : Nat) (h0 : n ≠ 0) : (hexL n).head? ≠ some 48 := by
  induction n using Nat.strongRecOn with
  | _ n ih =>
    by_cases h : n < 16
    · rw [hexL_lt h]
      intro e
      have e2 : hxB n = 48 := by simpa using e
      exact h0 ((hxB_hex ⟨n, h⟩).2.2.1 e2)
    · rw [hexL_ge h]
      have := ih (n / 16) (by omega) (by omega)
      cases hh : hexL (n / 16) with
      | nil => exact absurd hh (hexL_ne _)
      | cons c l => rw [hh] at this; simpa using this
theorem hexL_noZero (n : Nat) : noZero (hexL n) = true := by
  unfold noZero
  by_cases h : n = 0
  · subst h
    rw [hexL_lt (by omega)]
    rfl
  · simp [hexL_head n h]
theorem wordP_hex (n : Nat) (hn : n < 18446744073709551616) : wordP (hexL n) = some (n : Int) := by
  have hl := hexL_len 15 n (by omega)
  have hp : pu16 0 (hexL n) = some n := by
    have := pu16_val (hexL n) 0 0 (hexL_all n) (by simp) (by omega) []
    rw [List.append_nil, hexL_val] at this
    exact this
  unfold wordP puR
  rw [if_pos (hexL_all n), if_neg (hexL_ne n), hp]
  simp [hexL_noZero]
theorem hex_val : ∀ (m : Nat) (l : List UInt8), l.length = m → l.all isHex = true → l ≠ [] → noZero l = true → hexL (val 0 l) = l := by
  intro m
  induction m with
  | zero => intro l hl _ hne; exact absurd (List.eq_nil_of_length_eq_zero hl) hne
  | succ m ih =>
    intro l hl ha hne hz
    obtain ⟨l', c, rfl⟩ : ∃ l' c, l = l' ++ [c] := ⟨l.dropLast, l.getLast hne, (List.dropLast_concat_getLast hne).symm⟩
    rw [List.all_append, Bool.and_eq_true] at ha
    have hc : isHex c = true := by simpa using ha.2
    have hd := dv_lt hc
    rw [val_snoc]
    by_cases h0 : l' = []
    · subst h0
      simp only [val, List.foldl_nil, Nat.zero_mul, Nat.zero_add]
      rw [hexL_lt hd, hxB_dv' c hc]
      rfl
    · have hz' : l'.head? ≠ some 48 := by
        unfold noZero at hz
        simp only [Bool.or_eq_true, decide_eq_true_eq] at hz
        rcases hz with hz | hz
        · have h1 : (l' ++ [c]).length = 1 := by rw [hz]; rfl
          have h2 : 0 < l'.length := List.length_pos_iff.2 h0
          rw [List.length_append, List.length_singleton] at h1
          omega
        · intro e
          apply hz
          cases l' with
          | nil => cases e
          | cons a b => simpa using e
      have hz2 : noZero l' = true := by unfold noZero; simp [hz']
      have ih' := ih l' (by simpa using hl) ha.1 h0 hz2
      have hpos : 0 < val 0 l' := by
        cases l' with
        | nil => exact absurd rfl h0
        | cons a b =>
          rw [val_cons]
          have hah : isHex a = true := by simp only [List.all_cons, Bool.and_eq_true] at ha; exact ha.1.1
          have hda : 1 ≤ dv a := by
            rcases Nat.eq_zero_or_pos (dv a) with h | h
            · have := hxB_dv' a hah
              rw [h] at this
              exact absurd (by rw [← this]; rfl) hz'
            · exact h
          have := val_ge b (0 * 16 + dv a) 0 (by simpa using hda)
          have h3 : 0 < 16 ^ (0 + b.length) := Nat.pow_pos (by omega)
          omega
      rw [hexL_ge (by omega), show (val 0 l' * 16 + dv c) / 16 = val 0 l' from by omega, show (val 0 l' * 16 + dv c) % 16 = dv c from by omega, ih', hxB_dv' c hc]
theorem pu16_many : ∀ (l : List UInt8) (acc : Nat), 1152921504606846976 ≤ acc → l ≠ [] → pu16 acc l = none
  | [], _, _, h => absurd rfl h
  | c :: l, acc, h, _ => by
    show (if 1152921504606846976 ≤ acc then none else _) = none
    rw [if_pos h]
/-- what a word's text says is the number of its digits -/
theorem wordP_val {l : List UInt8} {x : Int} (h : wordP l = some x) : l.all isHex = true ∧ l ≠ [] ∧ noZero l = true ∧ x = (val 0 l : Nat) := by
  cases ha : l.all isHex
  · unfold wordP at h; rw [ha] at h; cases h
  · rcases wordP_ways l ha with ⟨_, k⟩ | ⟨n, k1, ⟨_, k⟩ | ⟨hz, k⟩, hw, hne⟩
    · rw [k] at h; cases h
    · rw [k] at h; cases h
    · rw [k] at h
      injection h with h
      refine ⟨rfl, hne, hz, ?_⟩
      subst h
      have hp : pu16 0 l = some n := by unfold puR at k1; rwa [if_neg hne] at k1
      have hpv : ∀ (m : List UInt8) (acc q : Nat), pu16 acc m = some q → q = val acc m := by
        intro m
        induction m with
        | nil => intro acc q h; injection h with h; exact h.symm
        | cons c m ih =>
          intro acc q h
          have e : (if 1152921504606846976 ≤ acc then none else pu16 (acc * 16 + dv c) m) = some q := h
          split at e
          · cases e
          · exact ih _ _ e
      rw [← hpv l 0 n hp]
theorem hex_word {l : List UInt8} {x : Int} (h : wordP l = some x) : hexL x.toNat = l := by
  obtain ⟨h1, h2, h3, h4⟩ := wordP_val h
  subst h4
  exact hex_val _ l rfl h1 h2 h3
end Go.Proofs.YtcfpnnkohjochaaDoor
