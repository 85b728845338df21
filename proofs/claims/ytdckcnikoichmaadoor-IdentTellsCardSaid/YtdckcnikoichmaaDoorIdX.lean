/- What is proved: the document's reading of a text is Read's. Plain: no program in sight. -/
import Derived.Test.YtdckcnikoichmaaDoorIdW
namespace Go.Proofs.YtdckcnikoichmaaDoor
set_option linter.unusedVariables false
set_option linter.unusedSimpArgs false
theorem rgo_app : ∀ (l : List UInt8) (a m : Nat) (r : List UInt8), rgo a l = some m → rgo a (l ++ r) = rgo m r
  | [], a, m, r, h => by cases h; rfl
  | b :: l, a, m, r, h => by
    have h' : (if isDig b = true ∧ a ≤ 10000000 then rgo (10 * a + (b.toNat - 48)) l else none) = some m := h
    show (if isDig b = true ∧ a ≤ 10000000 then rgo (10 * a + (b.toNat - 48)) (l ++ r) else none) = _
    split at h'
    · rename_i hh; rw [if_pos hh]; exact rgo_app l _ m r h'
    · cases h'
theorem dig_isDig (d : Nat) (h : d < 10) : isDig (UInt8.ofNat (48 + d)) = true := by unfold isDig; rw [dig_toNat d h]; simp; omega
theorem rgo_digits : ∀ (u : Nat), u ≤ 100000009 → rgo 0 (Lib.decDigits u) = some u := by
  intro u
  induction u using Nat.strongRecOn with
  | _ u ih =>
    intro hu
    rw [Lib.decDigits]
    by_cases h : u < 10
    · rw [dif_pos h, rgo_good 0 _ _ (dig_isDig u h) (by omega), dig_toNat u h]
      show some (10 * 0 + (48 + u - 48)) = some u
      congr 1; omega
    · rw [dif_neg h, rgo_app _ _ _ _ (ih (u / 10) (by omega) (by omega)), rgo_good _ _ _ (dig_isDig _ (by omega)) (by omega), dig_toNat _ (by omega)]
      show some (10 * (u / 10) + (48 + u % 10 - 48)) = some u
      congr 1; omega
theorem digits_head : ∀ (u : Nat), 1 ≤ u → ∃ c r, Lib.decDigits u = c :: r ∧ c ≠ 48 := by
  intro u
  induction u using Nat.strongRecOn with
  | _ u ih =>
    intro hu
    rw [Lib.decDigits]
    by_cases h : u < 10
    · rw [dif_pos h]
      refine ⟨_, [], rfl, fun e => ?_⟩
      have := congrArg UInt8.toNat e
      rw [dig_toNat u h] at this
      simp at this; omega
    · rw [dif_neg h]
      obtain ⟨c, r, e, hc⟩ := ih (u / 10) (by omega) (by omega)
      exact ⟨c, r ++ [UInt8.ofNat (48 + u % 10)], by rw [e]; rfl, hc⟩
theorem digits_zero : Lib.decDigits 0 = [48] := by rw [Lib.decDigits]; rfl
theorem lead_digits (u : Nat) : lead0 (Lib.decDigits u) = false := by
  by_cases h : u = 0
  · rw [h, digits_zero]; rfl
  · obtain ⟨c, r, e, hc⟩ := digits_head u (by omega)
    rw [e]
    have : (c == 48) = false := by simpa using hc
    show (c == 48 && !r.isEmpty) = false
    rw [this]; rfl
theorem rnum_itoa (n : Int) (h0 : 0 ≤ n) (h1 : n ≤ 1048578) : rnum (Lib.itoa n) = n := by
  rw [itoa_nat n h0, rnum_some (rgo_digits n.toNat (by omega)), if_neg (by rw [lead_digits]; simp)]
  omega
theorem rany_one (n : Int) (h0 : 0 ≤ n) (h1 : n ≤ 1048578) : rany (oneT n) = n := by
  unfold oneT rany
  by_cases h : n = 0
  · rw [if_pos h, if_pos rfl, h]
  · rw [if_neg h]
    have h42 : Lib.itoa n ≠ [42] := fun e => by
      have := not_in_itoa n h0 42 (by decide)
      rw [e] at this; simp at this
    have h48 : Lib.itoa n ≠ [48] := fun e => by
      obtain ⟨c, r, e2, hc⟩ := digits_head n.toNat (by omega)
      rw [itoa_nat n h0, e2] at e
      injection e with e3 e4
      exact hc e3
    rw [if_neg h42, if_neg h48]
    exact rnum_itoa n h0 h1
theorem digits_push (n : Nat) (b : UInt8) (hn : 1 ≤ n) (hb : isDig b = true) : Lib.decDigits (10 * n + (b.toNat - 48)) = Lib.decDigits n ++ [b] := by
  have hd : 48 ≤ b.toNat ∧ b.toNat ≤ 57 := by unfold isDig at hb; simpa using hb
  rw [Lib.decDigits, dif_neg (by omega)]
  have e1 : (10 * n + (b.toNat - 48)) / 10 = n := by omega
  have e2 : 48 + (10 * n + (b.toNat - 48)) % 10 = b.toNat := by omega
  rw [e1, e2]
  congr 2
  exact UInt8.ofNat_toNat
theorem rgo_back : ∀ (l : List UInt8) (n m : Nat), 1 ≤ n → rgo n l = some m → Lib.decDigits m = Lib.decDigits n ++ l
  | [], n, m, hn, h => by cases h; simp
  | b :: l, n, m, hn, h => by
    have h' : (if isDig b = true ∧ n ≤ 10000000 then rgo (10 * n + (b.toNat - 48)) l else none) = some m := h
    split at h'
    · rename_i hh
      rw [rgo_back l _ m (by omega) h', digits_push n b hn hh.1]
      simp
    · cases h'
theorem rnum_back (l : List UInt8) (h : 0 ≤ rnum l) : l = Lib.itoa (rnum l) := by
  cases hg : rgo 0 l with
  | none => rw [rnum_none hg] at h; omega
  | some m =>
    rw [rnum_some hg] at h ⊢
    by_cases hl : lead0 l = true
    · rw [if_pos hl] at h; omega
    · rw [if_neg hl]
      rw [itoa_nat _ (by omega)]
      have e : ((m : Nat) : Int).toNat = m := by omega
      rw [e]
      match l, hg, hl with
      | b :: r, hg, hl =>
        have h' : (if isDig b = true ∧ 0 ≤ 10000000 then rgo (10 * 0 + (b.toNat - 48)) r else none) = some m := hg
        split at h'
        · rename_i hh
          have hd : 48 ≤ b.toNat ∧ b.toNat ≤ 57 := by have := hh.1; unfold isDig at this; simpa using this
          by_cases hb : b = 48
          · have hr : r = [] := by
              have hl2 : ¬ (b == 48 && !r.isEmpty) = true := hl
              rw [hb] at hl2
              cases r with
              | nil => rfl
              | cons _ _ => exact absurd rfl hl2
            rw [hr, hb] at h'
            rw [hr, hb]
            have hm : m = 0 := by
              have h2 : some (10 * 0 + ((48 : UInt8).toNat - 48)) = some m := h'
              injection h2 with h2; rw [← h2]; rfl
            rw [hm, digits_zero]
          · have hne : b.toNat ≠ 48 := fun e => hb (UInt8.toNat_inj.1 e)
            rw [rgo_back r _ m (by omega) h']
            have e1 : Lib.decDigits (10 * 0 + (b.toNat - 48)) = [b] := by
              rw [Lib.decDigits, dif_pos (by omega)]
              have e2 : 48 + (10 * 0 + (b.toNat - 48)) = b.toNat := by omega
              rw [e2]
              congr 1
              exact UInt8.ofNat_toNat
            rw [e1]; rfl
        · cases h'
theorem rany_back (l : List UInt8) (h : 0 ≤ rany l) : l = oneT (rany l) := by
  by_cases h1 : l = [42]
  · rw [h1]
    have e : rany [42] = 0 := rfl
    rw [e]; rfl
  · by_cases h2 : l = [48]
    · rw [h2] at h
      have e : rany [48] = -1 := rfl
      rw [e] at h; omega
    · have e : rany l = rnum l := by unfold rany; rw [if_neg h1, if_neg h2]
      rw [e] at h ⊢
      have hb := rnum_back l h
      unfold oneT
      by_cases h0 : rnum l = 0
      · rw [h0] at hb
        have : Lib.itoa 0 = [48] := by rw [itoa_nat 0 (by omega)]; exact digits_zero
        rw [this] at hb; exact absurd hb h2
      · rw [if_neg h0]; exact hb
theorem split_at (l : List UInt8) (o : Nat) (d : UInt8) (h : l[o]? = some d) : l = l.take o ++ [d] ++ l.drop (o + 1) := by
  obtain ⟨ho, e⟩ := List.getElem?_eq_some_iff.1 h
  have e2 : l.drop o = d :: l.drop (o + 1) := by rw [← List.getElem_cons_drop ho, e]
  rw [List.append_assoc, List.singleton_append, ← e2, List.take_append_drop]
theorem rcut_ok (l : List UInt8) (d : UInt8) (h : (rcut l d).2.2 = true) : l = (rcut l d).1 ++ [d] ++ (rcut l d).2.1 := by
  unfold rcut at h ⊢
  by_cases hd : d ∈ l
  · rw [if_pos hd] at h ⊢
    unfold Lib.cut at h ⊢
    rw [Lib.index_one] at h ⊢
    by_cases hi : 0 ≤ Lib.indexByte l d
    · rw [if_pos hi] at h ⊢
      have h1 := (Lib.indexByte_some (l := l) (c := d) (o := (Lib.indexByte l d).toNat) (by omega)).1
      exact split_at l _ d h1
    · rw [if_neg hi] at h; cases h
  · rw [if_neg hd] at h; cases h
/-- the document's Read -/
def rread : List UInt8 → Int
  | [] => 0
  | c :: r =>
    if c = 101 then (if (rcut r 46).2.2 = true ∧ (1 ≤ rnum (rcut r 46).1 ∧ rnum (rcut r 46).1 ≤ 1048578) ∧ (0 ≤ rnum (rcut r 46).2.1 ∧ rnum (rcut r 46).2.1 ≤ 7) then rnum (rcut r 46).2.1 * 4294967296 + rnum (rcut r 46).1 else 0)
    else if c = 99 then (if 1 ≤ rnum r ∧ rnum r ≤ 24 then 4611686018427387904 + rnum r else 0)
    else if c = 112 then (if (rcut r 58).2.2 = true ∧ (0 ≤ rany (rcut r 58).1 ∧ rany (rcut r 58).1 ≤ 1048578) ∧ (0 ≤ rany (rcut r 58).2.1 ∧ rany (rcut r 58).2.1 ≤ 1048578) then 9223372036854775808 + rany (rcut r 58).1 * 4294967296 + rany (rcut r 58).2.1 else 0)
    else 0
theorem mk1 (x y : Int) (hx : 1 ≤ x ∧ x ≤ 1048578) (hy : 0 ≤ y ∧ y ≤ 7) : kd (y * 4294967296 + x) = 1 ∧ pa (y * 4294967296 + x) = x ∧ pb (y * 4294967296 + x) = y := by
  have e1 : hi (y * 4294967296 + x) = y := by show (y * 4294967296 + x) / 4294967296 % 1073741824 = y; omega
  have e2 : lo (y * 4294967296 + x) = x := by show (y * 4294967296 + x) % 1073741824 = x; omega
  have k : kd (y * 4294967296 + x) = 1 := by
    unfold kd
    rw [show tk (y * 4294967296 + x) 1 = true by rw [tk1, e1, e2, inn1, inn1]; simp; omega]
    rfl
  unfold pa pb
  rw [k, e1, e2]
  exact ⟨rfl, rfl, rfl⟩
theorem mk2 (x : Int) (hx : 1 ≤ x ∧ x ≤ 24) : kd (4611686018427387904 + x) = 2 ∧ pa (4611686018427387904 + x) = x := by
  have e1 : hi (4611686018427387904 + x) = 0 := by show (4611686018427387904 + x) / 4294967296 % 1073741824 = 0; omega
  have e2 : lo (4611686018427387904 + x) = x := by show (4611686018427387904 + x) % 1073741824 = x; omega
  have k : kd (4611686018427387904 + x) = 2 := by
    unfold kd
    rw [show tk (4611686018427387904 + x) 1 = false by rw [tk1, e1, e2]; simp; omega]
    rw [show tk (4611686018427387904 + x) 2 = true by rw [tk2, e2, inn1]; simp; omega]
    rfl
  unfold pa
  rw [k, e2]
  exact ⟨rfl, rfl⟩
theorem mk3 (x y : Int) (hx : 0 ≤ x ∧ x ≤ 1048578) (hy : 0 ≤ y ∧ y ≤ 1048578) : (kd (9223372036854775808 + x * 4294967296 + y) = 3 ∨ kd (9223372036854775808 + x * 4294967296 + y) = 4) ∧ pa (9223372036854775808 + x * 4294967296 + y) = x ∧ pb (9223372036854775808 + x * 4294967296 + y) = y := by
  have e1 : hi (9223372036854775808 + x * 4294967296 + y) = x := by show (9223372036854775808 + x * 4294967296 + y) / 4294967296 % 1073741824 = x; omega
  have e2 : lo (9223372036854775808 + x * 4294967296 + y) = y := by show (9223372036854775808 + x * 4294967296 + y) % 1073741824 = y; omega
  have k : kd (9223372036854775808 + x * 4294967296 + y) = 3 ∨ kd (9223372036854775808 + x * 4294967296 + y) = 4 := by
    unfold kd
    rw [show tk (9223372036854775808 + x * 4294967296 + y) 1 = false by rw [tk1, e1, e2]; simp; omega]
    rw [show tk (9223372036854775808 + x * 4294967296 + y) 2 = false by rw [tk2, e2]; simp; omega]
    rw [show tk (9223372036854775808 + x * 4294967296 + y) 4 = true by
      rw [show tk (9223372036854775808 + x * 4294967296 + y) 4 = ((9223372036854775808 + x * 4294967296 + y == 9223372036854775808 + hi (9223372036854775808 + x * 4294967296 + y) * 4294967296 + lo (9223372036854775808 + x * 4294967296 + y)) && inn 0 1048578 [hi (9223372036854775808 + x * 4294967296 + y), lo (9223372036854775808 + x * 4294967296 + y)]) from rfl, e1, e2, inn2]
      simp; omega]
    cases tk (9223372036854775808 + x * 4294967296 + y) 3
    · right; rfl
    · left; rfl
  unfold pa pb
  rw [e1, e2]
  refine ⟨k, ?_, ?_⟩
  · rw [if_neg (by omega), if_pos k]
  · rw [if_neg (by omega), if_pos k]
theorem rread_e (r : List UInt8) : rread (101 :: r) = if (rcut r 46).2.2 = true ∧ (1 ≤ rnum (rcut r 46).1 ∧ rnum (rcut r 46).1 ≤ 1048578) ∧ (0 ≤ rnum (rcut r 46).2.1 ∧ rnum (rcut r 46).2.1 ≤ 7) then rnum (rcut r 46).2.1 * 4294967296 + rnum (rcut r 46).1 else 0 := rfl
theorem rread_c (r : List UInt8) : rread (99 :: r) = if 1 ≤ rnum r ∧ rnum r ≤ 24 then 4611686018427387904 + rnum r else 0 := rfl
theorem rread_p (r : List UInt8) : rread (112 :: r) = if (rcut r 58).2.2 = true ∧ (0 ≤ rany (rcut r 58).1 ∧ rany (rcut r 58).1 ≤ 1048578) ∧ (0 ≤ rany (rcut r 58).2.1 ∧ rany (rcut r 58).2.1 ≤ 1048578) then 9223372036854775808 + rany (rcut r 58).1 * 4294967296 + rany (rcut r 58).2.1 else 0 := rfl
theorem rcut_app (x r : List UInt8) (d : UInt8) (h : d ∉ x) : rcut (x ++ [d] ++ r) d = (x, r, true) := by
  unfold rcut
  rw [if_pos (by simp)]
  exact cut_at x r d h
theorem rread_txt (a : Int) (h : kd a ≠ 0) : rread (txt a) = a := by
  obtain ⟨m1, m2, m3⟩ := mk_again a
  obtain ⟨b0, b1, b2, b3⟩ := pab_bd a
  have hd := kd_bd a
  unfold txt
  by_cases k1 : kd a = 1
  · obtain ⟨g1, g2⟩ := m1 k1
    have hx : 1 ≤ pa a ∧ pa a ≤ 1048578 ∧ 0 ≤ pb a ∧ pb a ≤ 7 := by
      unfold entE at g2
      split at g2
      · assumption
      · omega
    rw [if_pos k1]
    have e : [101] ++ Lib.itoa (pa a) ++ [46] ++ Lib.itoa (pb a) = (101 : UInt8) :: (Lib.itoa (pa a) ++ [46] ++ Lib.itoa (pb a)) := by simp
    rw [e, rread_e, rcut_app _ _ _ (not_in_itoa _ b0 46 (by decide))]
    simp only []
    rw [rnum_itoa _ b0 (by omega), rnum_itoa _ b2 (by omega), if_pos ⟨trivial, by omega, by omega⟩]
    unfold entV at g1
    rw [if_pos (by omega)] at g1
    exact g1
  · rw [if_neg k1]
    by_cases k2 : kd a = 2
    · obtain ⟨g1, g2⟩ := m2 k2
      have hx : 1 ≤ pa a ∧ pa a ≤ 24 := by
        unfold comE at g2
        split at g2
        · assumption
        · omega
      rw [if_pos k2]
      have e : [99] ++ Lib.itoa (pa a) = (99 : UInt8) :: Lib.itoa (pa a) := by simp
      rw [e, rread_c, rnum_itoa _ b0 (by omega), if_pos hx]
      unfold comV at g1
      rw [if_pos (by omega)] at g1
      exact g1
    · have k3 : kd a = 3 ∨ kd a = 4 := by omega
      obtain ⟨g1, g2⟩ := m3 k3
      have hx : 0 ≤ pa a ∧ pa a ≤ 1048578 ∧ 0 ≤ pb a ∧ pb a ≤ 1048578 := by
        unfold paiE at g2
        split at g2
        · assumption
        · omega
      rw [if_neg k2, if_pos k3]
      have e : [112] ++ oneT (pa a) ++ [58] ++ oneT (pb a) = (112 : UInt8) :: (oneT (pa a) ++ [58] ++ oneT (pb a)) := by simp
      rw [e, rread_p, rcut_app _ _ _ (not_in_one _ b0)]
      simp only []
      rw [rany_one _ b0 (by omega), rany_one _ b2 (by omega), if_pos ⟨trivial, by omega, by omega⟩]
      unfold paiV at g1
      rw [if_pos (by omega)] at g1
      exact g1
theorem rread_back (l : List UInt8) (h : rread l ≠ 0) : txt (rread l) = l ∧ kd (rread l) ≠ 0 := by
  match l with
  | [] => exact absurd rfl h
  | c :: r =>
    by_cases h1 : c = 101
    · subst h1
      rw [rread_e] at h ⊢
      by_cases hc : (rcut r 46).2.2 = true ∧ (1 ≤ rnum (rcut r 46).1 ∧ rnum (rcut r 46).1 ≤ 1048578) ∧ (0 ≤ rnum (rcut r 46).2.1 ∧ rnum (rcut r 46).2.1 ≤ 7)
      · rw [if_pos hc]
        obtain ⟨o, x, y⟩ := hc
        obtain ⟨k, p1, p2⟩ := mk1 _ _ x y
        refine ⟨?_, by rw [k]; decide⟩
        unfold txt
        rw [if_pos k, p1, p2, ← rnum_back _ (by omega), ← rnum_back _ (by omega)]
        have := rcut_ok r 46 o
        rw [List.append_assoc, List.append_assoc, ← List.append_assoc (rcut r 46).1, ← this]; rfl
      · rw [if_neg hc] at h; exact absurd rfl h
    · by_cases h2 : c = 99
      · subst h2
        rw [rread_c] at h ⊢
        by_cases hc : 1 ≤ rnum r ∧ rnum r ≤ 24
        · rw [if_pos hc]
          obtain ⟨k, p1⟩ := mk2 _ hc
          refine ⟨?_, by rw [k]; decide⟩
          unfold txt
          rw [if_neg (by omega), if_pos k, p1, ← rnum_back _ (by omega)]; rfl
        · rw [if_neg hc] at h; exact absurd rfl h
      · by_cases h3 : c = 112
        · subst h3
          rw [rread_p] at h ⊢
          by_cases hc : (rcut r 58).2.2 = true ∧ (0 ≤ rany (rcut r 58).1 ∧ rany (rcut r 58).1 ≤ 1048578) ∧ (0 ≤ rany (rcut r 58).2.1 ∧ rany (rcut r 58).2.1 ≤ 1048578)
          · rw [if_pos hc]
            obtain ⟨o, x, y⟩ := hc
            obtain ⟨k, p1, p2⟩ := mk3 _ _ x y
            refine ⟨?_, by omega⟩
            unfold txt
            rw [if_neg (by omega), if_neg (by omega), if_pos k, p1, p2, ← rany_back _ (by omega), ← rany_back _ (by omega)]
            have := rcut_ok r 58 o
            rw [List.append_assoc, List.append_assoc, ← List.append_assoc (rcut r 58).1, ← this]; rfl
          · rw [if_neg hc] at h; exact absurd rfl h
        · exfalso; apply h
          show (if c = 101 then _ else if c = 99 then _ else if c = 112 then _ else (0 : Int)) = 0
          rw [if_neg h1, if_neg h2, if_neg h3]
theorem rread_eq (l : List UInt8) : (rread l = rdV l ∧ rdE l = 0 ∧ rread l ≠ 0) ∨ (rread l = 0 ∧ rdV l = 0 ∧ rdE l = 110) := by
  by_cases h : rread l = 0
  · right
    rcases rd_cases l with ⟨h1, h2⟩ | ⟨h1, h2, h3⟩
    · exact ⟨h, h1, h2⟩
    · exfalso
      have := rread_txt _ h3
      rw [h2, h] at this
      rw [← this] at h3
      exact h3 (by decide +kernel)
  · left
    obtain ⟨e1, e2⟩ := rread_back l h
    obtain ⟨v1, v2⟩ := rdV_txt _ e2
    rw [e1] at v1 v2
    exact ⟨v1.symm, v2, h⟩
end Go.Proofs.YtdckcnikoichmaaDoor
