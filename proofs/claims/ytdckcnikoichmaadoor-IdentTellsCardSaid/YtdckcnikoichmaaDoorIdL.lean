/- What is proved: an id's text reads back as the id; the order of ids by their parts. Plain: no program in sight. -/
import Derived.Test.YtdckcnikoichmaaDoorIdK
import Derived.Lib.AtoiTie
import Derived.Lib.IndexBytes
namespace Go.Proofs.YtdckcnikoichmaaDoor
set_option linter.unusedVariables false
set_option linter.unusedSimpArgs false
theorem decFrom_app : ∀ (l r : List UInt8) (acc m : Nat), Lib.decFrom acc l = some m → Lib.decFrom acc (l ++ r) = Lib.decFrom m r
  | [], r, acc, m, h => by cases h; rfl
  | b :: l, r, acc, m, h => by
    show (match Lib.digitVal b with | some d => Lib.decFrom (acc * 10 + d) (l ++ r) | none => none) = _
    have h' : (match Lib.digitVal b with | some d => Lib.decFrom (acc * 10 + d) l | none => none) = some m := h
    cases e : Lib.digitVal b with
    | none => rw [e] at h'; cases h'
    | some d => rw [e] at h'; exact decFrom_app l r _ m h'
theorem dig_toNat (d : Nat) (h : d < 10) : (UInt8.ofNat (48 + d)).toNat = 48 + d := by simp; omega
theorem dig_val (d : Nat) (h : d < 10) : Lib.digitVal (UInt8.ofNat (48 + d)) = some d := by
  unfold Lib.digitVal
  rw [dig_toNat d h, if_pos (by omega)]
  simp
theorem decFrom_digits : ∀ (u : Nat), Lib.decFrom 0 (Lib.decDigits u) = some u := by
  intro u
  induction u using Nat.strongRecOn with
  | _ u ih =>
    rw [Lib.decDigits]
    by_cases h : u < 10
    · rw [dif_pos h]
      show (match Lib.digitVal (UInt8.ofNat (48 + u)) with | some d => Lib.decFrom (0 * 10 + d) [] | none => none) = _
      rw [dig_val u h]
      simp [Lib.decFrom]
    · rw [dif_neg h, decFrom_app _ _ _ _ (ih (u / 10) (by omega))]
      show (match Lib.digitVal (UInt8.ofNat (48 + u % 10)) with | some d => Lib.decFrom (u / 10 * 10 + d) [] | none => none) = _
      rw [dig_val (u % 10) (by omega)]
      show some (u / 10 * 10 + u % 10) = some u
      congr 1; omega
theorem digits_dig : ∀ (u : Nat), ∀ c ∈ Lib.decDigits u, isDig c = true := by
  intro u
  induction u using Nat.strongRecOn with
  | _ u ih =>
    intro c hc
    rw [Lib.decDigits] at hc
    by_cases h : u < 10
    · rw [dif_pos h] at hc
      rw [List.mem_singleton.1 hc]
      unfold isDig
      rw [dig_toNat u h]; simp; omega
    · rw [dif_neg h] at hc
      rcases List.mem_append.1 hc with hc | hc
      · exact ih (u / 10) (by omega) c hc
      · rw [List.mem_singleton.1 hc]
        unfold isDig
        rw [dig_toNat (u % 10) (by omega)]; simp; omega
theorem itoa_nat (n : Int) (h : 0 ≤ n) : Lib.itoa n = Lib.decDigits n.toNat := by unfold Lib.itoa; rw [if_neg (by omega)]
theorem digits_len (u : Nat) (h : u < 1073741824) : (Lib.decDigits u).length ≤ 10 := by
  rw [Lib.decDigits_length]
  have := Lib.nDigits_pos u
  by_cases h0 : Lib.nDigits u ≤ 10
  · exact h0
  · exfalso
    have hb : ∀ (k v : Nat), v < 10 ^ (k + 1) → Lib.nDigits v ≤ k + 1 := by
      intro k
      induction k with
      | zero => intro v hv; rw [Lib.nDigits_small (by simpa using hv)]; omega
      | succ k ih =>
        intro v hv
        by_cases hv2 : v < 10
        · rw [Lib.nDigits_small hv2]; omega
        · rw [Lib.nDigits_big hv2]
          have := ih (v / 10) (by rw [Nat.pow_succ] at hv; omega)
          omega
    have := hb 9 u (by omega)
    omega
theorem atoi_dig (c : UInt8) (r : List UInt8) (h : isDig c = true) : Lib.atoi (c :: r) = (Lib.decNat (c :: r)).map fun (m : Nat) => (m : Int) := by
  have hc : 48 ≤ c.toNat ∧ c.toNat ≤ 57 := by unfold isDig at h; simpa using h
  have h1 : (c == 45) = false := by
    cases e : (c == 45) with
    | false => rfl
    | true => have : c = 45 := by simpa using e
              subst this; simp at hc
  have h2 : (c == 43) = false := by
    cases e : (c == 43) with
    | false => rfl
    | true => have : c = 43 := by simpa using e
              subst this; simp at hc
  show (if c == 45 then (Lib.decNat r).map fun (m : Nat) => -(m : Int) else if c == 43 then (Lib.decNat r).map fun (m : Nat) => (m : Int) else (Lib.decNat (c :: r)).map fun (m : Nat) => (m : Int)) = _
  rw [h1, h2]; rfl
theorem numP_itoa (n : Int) (h0 : 0 ≤ n) (h1 : n ≤ 1073741823) : numP (Lib.itoa n) = some n := by
  rw [itoa_nat n h0]
  have hd := digits_dig n.toNat
  have hl := digits_len n.toNat (by omega)
  have hv := decFrom_digits n.toNat
  have hp : 1 ≤ (Lib.decDigits n.toNat).length := by rw [Lib.decDigits_length]; exact Lib.nDigits_pos _
  generalize hD : Lib.decDigits n.toNat = D at hd hl hv hp
  match D, hp with
  | c :: r, _ =>
    have hc := hd c (List.mem_cons_self ..)
    have hs : Lib.atoiAll (c :: r) = .ok n := by
      rw [Lib.atoiAll_short _ (by omega), atoi_dig c r hc]
      show Lib.NumEnd.ofOption ((if (c :: r).isEmpty then none else Lib.decFrom 0 (c :: r)).map fun (m : Nat) => (m : Int)) = _
      rw [hv]
      show Lib.NumEnd.ok ((n.toNat : Nat) : Int) = .ok n
      congr 1; omega
    refine numR_ok (List.all_eq_true.2 hd) (fun e => ?_) hs
    injection e with e1 e2
    subst e1
    revert hc; decide
theorem numP_one (n : Int) (h0 : 0 ≤ n) (h1 : n ≤ 1073741823) : numP (oneT n) = some n := by
  unfold oneT
  by_cases h : n = 0
  · rw [if_pos h, h]; decide +kernel
  · rw [if_neg h]; exact numP_itoa n h0 h1
theorem iB_at (d : UInt8) (r : List UInt8) : ∀ x : List UInt8, d ∉ x → Lib.indexByte (x ++ d :: r) d = x.length
  | [], _ => by show (if d == d then (0 : Int) else _) = _; simp
  | b :: x, h => by
    have hb : (b == d) = false := by
      cases e : (b == d) with
      | false => rfl
      | true => exact absurd (by have : b = d := by simpa using e
                                 subst this; exact List.mem_cons_self ..) h
    have ih := iB_at d r x (fun e => h (List.mem_cons_of_mem _ e))
    show (if b == d then (0 : Int) else if Lib.indexByte (x ++ d :: r) d == -1 then -1 else Lib.indexByte (x ++ d :: r) d + 1) = _
    rw [hb, ih]
    have : (((x.length : Nat) : Int) == -1) = false := by simp
    rw [this]; simp
theorem cut_at (x r : List UInt8) (d : UInt8) (h : d ∉ x) : Lib.cut (x ++ [d] ++ r) [d] = (x, r, true) := by
  unfold Lib.cut
  rw [Lib.index_one]
  have e : x ++ [d] ++ r = x ++ d :: r := by simp
  rw [e, iB_at d r x h, if_pos (by omega)]
  simp
theorem not_in_itoa (n : Int) (h : 0 ≤ n) (d : UInt8) (hd : isDig d = false) : d ∉ Lib.itoa n := by
  rw [itoa_nat n h]
  intro hm
  rw [digits_dig _ d hm] at hd; cases hd
theorem not_in_one (n : Int) (h : 0 ≤ n) : (58 : UInt8) ∉ oneT n := by
  unfold oneT
  by_cases h0 : n = 0
  · rw [if_pos h0]; decide
  · rw [if_neg h0]; exact not_in_itoa n h 58 (by decide)
/-- the forms of a kind -/
theorem kd_forms (a : Int) : (kd a = 1 ∧ a = hi a * 4294967296 + lo a ∧ 1 ≤ lo a ∧ lo a ≤ 1048578 ∧ 0 ≤ hi a ∧ hi a ≤ 7) ∨ (kd a = 2 ∧ a = 4611686018427387904 + lo a ∧ 1 ≤ lo a ∧ lo a ≤ 24) ∨
    (kd a = 3 ∧ a = 9223372036854775808 + hi a * 4294967296 + lo a ∧ 1 ≤ hi a ∧ hi a ≤ 1048578 ∧ 1 ≤ lo a ∧ lo a ≤ 1048578) ∨
    (kd a = 4 ∧ a = 9223372036854775808 + hi a * 4294967296 + lo a ∧ 0 ≤ hi a ∧ hi a ≤ 1048578 ∧ 0 ≤ lo a ∧ lo a ≤ 1048578) ∨ kd a = 0 := by
  unfold kd
  cases h1 : tk a 1 with
  | true =>
    rw [tk1, inn1, inn1] at h1
    simp only [Bool.and_eq_true, decide_eq_true_iff, beq_iff_eq] at h1
    left; exact ⟨rfl, by omega, by omega, by omega, by omega, by omega⟩
  | false =>
    cases h2 : tk a 2 with
    | true =>
      rw [tk2, inn1] at h2
      simp only [Bool.and_eq_true, decide_eq_true_iff, beq_iff_eq] at h2
      right; left; exact ⟨rfl, by omega, by omega, by omega⟩
    | false =>
      cases h3 : tk a 3 with
      | true =>
        rw [show tk a 3 = ((a == 9223372036854775808 + hi a * 4294967296 + lo a) && inn 1 1048578 [hi a, lo a]) from rfl, inn2] at h3
        simp only [Bool.and_eq_true, decide_eq_true_iff, beq_iff_eq] at h3
        right; right; left; exact ⟨rfl, by omega, by omega, by omega, by omega, by omega⟩
      | false =>
        cases h4 : tk a 4 with
        | true =>
          rw [show tk a 4 = ((a == 9223372036854775808 + hi a * 4294967296 + lo a) && inn 0 1048578 [hi a, lo a]) from rfl, inn2] at h4
          simp only [Bool.and_eq_true, decide_eq_true_iff, beq_iff_eq] at h4
          right; right; right; left; exact ⟨rfl, by omega, by omega, by omega, by omega, by omega⟩
        | false => right; right; right; right; rfl
theorem mk_again (a : Int) : (kd a = 1 → entV (pa a) (pb a) = a ∧ entE (pa a) (pb a) = 0) ∧ (kd a = 2 → comV (pa a) = a ∧ comE (pa a) = 0) ∧ (kd a = 3 ∨ kd a = 4 → paiV (pa a) (pb a) = a ∧ paiE (pa a) (pb a) = 0) := by
  unfold pa pb
  rcases kd_forms a with ⟨k, h1, h2⟩ | ⟨k, h1, h2⟩ | ⟨k, h1, h2⟩ | ⟨k, h1, h2⟩ | k
  all_goals
    rw [k]
    refine ⟨fun h => ?_, fun h => ?_, fun h => ?_⟩ <;> first | (exfalso; omega) | skip
  · simp only [true_or, if_true]
    unfold entV entE
    rw [if_pos (by omega), if_pos (by omega)]; exact ⟨by omega, rfl⟩
  · rw [if_pos (by omega)]
    unfold comV comE
    rw [if_pos (by omega), if_pos (by omega)]; exact ⟨by omega, rfl⟩
  · rw [if_neg (by omega), if_pos (by omega), if_neg (by omega), if_pos (by omega)]
    unfold paiV paiE
    rw [if_pos (by omega), if_pos (by omega)]; exact ⟨by omega, rfl⟩
  · rw [if_neg (by omega), if_pos (by omega), if_neg (by omega), if_pos (by omega)]
    unfold paiV paiE
    rw [if_pos (by omega), if_pos (by omega)]; exact ⟨by omega, rfl⟩
theorem pab_bd (a : Int) : 0 ≤ pa a ∧ pa a ≤ 1073741823 ∧ 0 ≤ pb a ∧ pb a ≤ 1073741823 := by
  have h1 := hi_bd a
  have h2 := lo_bd a
  unfold pa pb
  refine ⟨?_, ?_, ?_, ?_⟩ <;> (repeat' split) <;> omega
theorem mkP_e (r : List UInt8) : mkP (101 :: r) = (match numP (Lib.cut r [46]).1, numP (Lib.cut r [46]).2.1 with | some a, some b => if entE a b = 0 then some (entV a b) else none | _, _ => none) := rfl
theorem mkP_c (r : List UInt8) : mkP (99 :: r) = (match numP r with | some a => if comE a = 0 then some (comV a) else none | _ => none) := rfl
theorem mkP_p (r : List UInt8) : mkP (112 :: r) = (match numP (Lib.cut r [58]).1, numP (Lib.cut r [58]).2.1 with | some a, some b => if paiE a b = 0 then some (paiV a b) else none | _, _ => none) := rfl
theorem rd_txt (a : Int) (h : kd a ≠ 0) : rd (txt a) = some a := by
  obtain ⟨m1, m2, m3⟩ := mk_again a
  obtain ⟨b0, b1, b2, b3⟩ := pab_bd a
  have key : mkP (txt a) = some a := by
    unfold txt
    have hd := kd_bd a
    by_cases k1 : kd a = 1
    · rw [if_pos k1]
      have e : [101] ++ Lib.itoa (pa a) ++ [46] ++ Lib.itoa (pb a) = (101 : UInt8) :: (Lib.itoa (pa a) ++ [46] ++ Lib.itoa (pb a)) := by simp
      rw [e, mkP_e, cut_at _ _ _ (not_in_itoa _ b0 46 (by decide))]
      show (match numP (Lib.itoa (pa a)), numP (Lib.itoa (pb a)) with | some a, some b => if entE a b = 0 then some (entV a b) else none | _, _ => none) = _
      rw [numP_itoa _ b0 b1, numP_itoa _ b2 b3]
      show (if entE (pa a) (pb a) = 0 then some (entV (pa a) (pb a)) else none) = _
      rw [if_pos (m1 k1).2, (m1 k1).1]
    · rw [if_neg k1]
      by_cases k2 : kd a = 2
      · rw [if_pos k2]
        have e : [99] ++ Lib.itoa (pa a) = (99 : UInt8) :: Lib.itoa (pa a) := by simp
        rw [e, mkP_c, numP_itoa _ b0 b1]
        show (if comE (pa a) = 0 then some (comV (pa a)) else none) = _
        rw [if_pos (m2 k2).2, (m2 k2).1]
      · have k3 : kd a = 3 ∨ kd a = 4 := by omega
        rw [if_neg k2, if_pos k3]
        have e : [112] ++ oneT (pa a) ++ [58] ++ oneT (pb a) = (112 : UInt8) :: (oneT (pa a) ++ [58] ++ oneT (pb a)) := by simp
        rw [e, mkP_p, cut_at _ _ _ (not_in_one _ b0)]
        show (match numP (oneT (pa a)), numP (oneT (pb a)) with | some a, some b => if paiE a b = 0 then some (paiV a b) else none | _, _ => none) = _
        rw [numP_one _ b0 b1, numP_one _ b2 b3]
        show (if paiE (pa a) (pb a) = 0 then some (paiV (pa a) (pb a)) else none) = _
        rw [if_pos (m3 k3).2, (m3 k3).1]
  unfold rd
  rw [key]
  simp
theorem rdV_txt (a : Int) (h : kd a ≠ 0) : rdV (txt a) = a ∧ rdE (txt a) = 0 := by
  unfold rdV rdE
  rw [rd_txt a h]
  exact ⟨rfl, rfl⟩
theorem txt_inj {a b : Int} (ha : kd a ≠ 0) (hb : kd b ≠ 0) (h : txt a = txt b) : a = b := by
  have h1 := rd_txt a ha
  rw [h, rd_txt b hb] at h1
  exact (Option.some.inj h1).symm
theorem mkP_kd {l : List UInt8} {i : Int} (h : mkP l = some i) (ht : txt i = l) : kd i ≠ 0 := by
  intro k
  unfold txt at ht
  rw [k] at ht
  simp at ht
  subst ht
  cases h
/-- Read gives an id's text back, or nothing -/
theorem rd_cases (l : List UInt8) : (rdV l = 0 ∧ rdE l = 110) ∨ (rdE l = 0 ∧ txt (rdV l) = l ∧ kd (rdV l) ≠ 0) := by
  unfold rdV rdE rd
  cases e : mkP l with
  | none => left; exact ⟨rfl, rfl⟩
  | some i =>
    by_cases ht : txt i = l
    · right
      have : (some i).bind (fun i => if txt i = l then some i else none) = some i := by simp [ht]
      rw [this]
      exact ⟨rfl, ht, mkP_kd e ht⟩
    · left
      have : (some i).bind (fun i => if txt i = l then some i else none) = none := by simp [ht]
      rw [this]
      exact ⟨rfl, rfl⟩
theorem kd_word (a : Int) (h : kd a ≠ 0) : Word a := by
  rcases kd_forms a with ⟨k, h1, h2⟩ | ⟨k, h1, h2⟩ | ⟨k, h1, h2⟩ | ⟨k, h1, h2⟩ | k
  all_goals first | exact absurd k h | (constructor <;> omega)
theorem lt_kind (x y : Int) (hx : kd x ≠ 0) (hy : kd y ≠ 0) (h : min (kd x) 3 ≠ min (kd y) 3) : (x < y) ↔ (kd x < kd y) := by
  rcases kd_forms x with ⟨k, h1, h2⟩ | ⟨k, h1, h2⟩ | ⟨k, h1, h2⟩ | ⟨k, h1, h2⟩ | k
  all_goals first | exact absurd k hx | (
    rcases kd_forms y with ⟨l, g1, g2⟩ | ⟨l, g1, g2⟩ | ⟨l, g1, g2⟩ | ⟨l, g1, g2⟩ | l
    all_goals first | exact absurd l hy | (rw [k, l] at h; exfalso; omega) | (rw [k, l]; constructor <;> intro <;> omega))
/-- the leading part and the other -/
def ra (a : Int) : Int := if kd a < 3 then pb a else pa a
def rb (a : Int) : Int := if kd a < 3 then pa a else pb a
theorem rab (a : Int) (h : kd a ≠ 0) : (kd a = 2 → ra a = hi a ∧ hi a = 0) ∧ (ra a = hi a) ∧ rb a = lo a := by
  have e : kd a < 3 → pb a = hi a ∧ pa a = lo a := by
    intro hk; have := kd_bd a; unfold pa pb; rw [if_pos (by omega), if_pos (by omega)]; exact ⟨rfl, rfl⟩
  have e2 : ¬ kd a < 3 → pa a = hi a ∧ pb a = lo a := by
    intro hk; have := kd_bd a; unfold pa pb; rw [if_neg (by omega), if_pos (by omega), if_neg (by omega), if_pos (by omega)]; exact ⟨rfl, rfl⟩
  have e3 : ra a = hi a := by unfold ra; split <;> rename_i hh; exact (e hh).1; exact (e2 hh).1
  have e4 : rb a = lo a := by unfold rb; split <;> rename_i hh; exact (e hh).2; exact (e2 hh).2
  refine ⟨fun k => ⟨e3, ?_⟩, e3, e4⟩
  rcases kd_forms a with ⟨k1, h1, h2⟩ | ⟨k1, h1, h2⟩ | ⟨k1, h1, h2⟩ | ⟨k1, h1, h2⟩ | k1
  all_goals first | (exfalso; omega) | skip
  unfold hi; unfold lo at h1 h2; omega
theorem lt_parts (x y : Int) (hx : kd x ≠ 0) (hy : kd y ≠ 0) (h : min (kd x) 3 = min (kd y) 3) : (x < y) ↔ (ra x < ra y ∨ (ra x = ra y ∧ rb x < rb y)) := by
  obtain ⟨x0, x1, x2⟩ := rab x hx
  obtain ⟨y0, y1, y2⟩ := rab y hy
  rw [x1, x2, y1, y2]
  rw [x1] at x0
  rw [y1] at y0
  have b1 := lo_bd x
  have b2 := lo_bd y
  rcases kd_forms x with ⟨k, h1, h2⟩ | ⟨k, h1, h2⟩ | ⟨k, h1, h2⟩ | ⟨k, h1, h2⟩ | k
  all_goals first | exact absurd k hx | (
    rcases kd_forms y with ⟨l, g1, g2⟩ | ⟨l, g1, g2⟩ | ⟨l, g1, g2⟩ | ⟨l, g1, g2⟩ | l
    all_goals first | exact absurd l hy | (rw [k, l] at h; exfalso; omega) | skip)
  all_goals
    clear hx hy h
    try have := x0 k
    try have := y0 l
    clear x0 y0 x1 x2 y1 y2
    generalize hi x = X at *
    generalize hi y = Y at *
    generalize lo x = U at *
    generalize lo y = V at *
    omega
end Go.Proofs.YtdckcnikoichmaaDoor
