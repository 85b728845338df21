/- What is proved: contracts of the document's May, Right, Same of types, and of its Index and Has of entities. -/
import Derived.Test.YtbcbknajhdaneaaTaH
namespace Go.Proofs.Ytbcbknajhdaneaa
open Go.RowKit
set_option linter.unusedVariables false
set_option linter.unusedSimpArgs false
theorem rmay_any (a : Int) (h : Word a) (w : World) : Calls Try.prog 95 #[.int .u64 a] w fun e w' => e = .returned (.bool (tmay a)) ∧ w = w' := by
  unfold tmay
  have hk := kd_bd a
  have ck := fun w => rkind_any a h w
  rcases (show kd a = 0 ∨ kd a = 1 ∨ kd a = 2 ∨ kd a = 3 ∨ kd a = 4 from by omega) with k | k | k | k | k
  all_goals
    rw [k] at ck ⊢
    clear hk k
    go_enter Try.func95, Try.ntmps95
    go_wp2_with (first
      | (go_at_call 72; (with_reducible refine (ck _).mono ?_); rintro e w2 ⟨rfl, rfl⟩)
      | fail)
    go_ret
    exact ⟨rfl, rfl⟩
set_option maxRecDepth 100000 in
set_option maxHeartbeats 4000000 in
theorem rtype_any (A : Option Addr) (n c : Nat) (l : List Int) (w : World) (hR : Reads w w.heap.size 1 A n (ids l)) (hW : ∀ x ∈ l, Word x) (hn : n ≤ 281474976710656) :
    Calls Try.prog 44 #[.slice A n c] w fun e w' => e = .returned (.bool (tyR l)) ∧ w = w' := by
  have hl : l.length = n := by have := hR.1; rw [ids_len] at this; omega
  have HL := Lib.hid hl
  have he : ∀ k, k ≤ n → tyOk l k = false → tyR l = false := fun k hk h => by unfold tyR; rw [hl, tyOk_false h hk, Bool.and_false]
  have he2 : tyOk l n = true → tyR l = decide ((n : Int) ≤ 12) := fun h => by
    unfold tyR; rw [hl, h, Bool.and_true]
    by_cases h12 : n ≤ 12
    · rw [decide_eq_true h12, decide_eq_true (by omega)]
    · rw [decide_eq_false h12, decide_eq_false (by omega)]
  have HE := Lib.hid he
  have HE2 := Lib.hid he2
  clear he he2
  go_enter Try.func44, Try.ntmps44
  go_wp2_with fail
  go_loopw [7] (fun i wr => ∃ k : Nat, k ≤ n ∧ i = .int .i64 k ∧ tyOk l k = true ∧ wr = w)
    (fun i _ => n - (intOf i).toNat)
  case atStart => exact ⟨0, Nat.zero_le _, rfl, rfl, rfl⟩
  case round =>
    obtain ⟨k, hk, rfl, hq, rfl⟩ := hrel
    by_cases hlt : k < n
    · have e1 := List.getElem?_eq_getElem (l := l) (i := k) (by omega)
      generalize l[k]'(by omega) = x at e1
      have hs := tyOk_step e1
      rw [hq, Bool.true_and] at hs
      have hwx : Word x := hW x (List.mem_of_getElem? e1)
      have cm := fun w => rmay_any x hwx w
      obtain ⟨b, off, rfl, hbl, g⟩ := ids_cell hR e1
      have hfalse := fun h : (tmay x && (k == 0 || decide (idAt l (k - 1) < x))) = false => Lib.hid (show tyR l = false from HE.out (k + 1) hlt (hs.trans h))
      have htrue := fun h : (tmay x && (k == 0 || decide (idAt l (k - 1) < x))) = true => Lib.hid (hs.trans h)
      clear hs hq e1
      cases hm : tmay x
      · have hF := hfalse (by rw [hm]; rfl)
        rw [hm] at cm
        clear hfalse htrue hm hR
        go_wp2_with (first
          | (go_at_call 95; (with_reducible refine (cm _).mono ?_); rintro e w2 ⟨rfl, rfl⟩)
          | fail)
        try rw [Exit.noGoto_ret]
        go_ret
        exact ⟨ret_bool hF.out.symm, rfl⟩
      · cases k with
        | zero =>
          have hF := htrue (by rw [hm]; rfl)
          rw [hm] at cm
          simp only [Nat.add_zero] at g
          clear hfalse htrue hm hR
          go_wp2_with (first
            | (go_at_call 95; (with_reducible refine (cm _).mono ?_); rintro e w2 ⟨rfl, rfl⟩)
            | fail)
          go_roundw
          case rel => exact ⟨1, by omega, rfl, hF.out, by trivial⟩
          case measure => simp [intOf]; omega
        | succ j =>
          have hy : l[j]? = some (l[j]'(by omega)) := List.getElem?_eq_getElem _
          generalize l[j]'(by omega) = y at hy
          obtain ⟨b', off', e, _, gy⟩ := ids_cell hR hy
          injection e with e; injection e with e2 e3; subst e2 e3
          have hid : idAt l (j + 1 - 1) = y := by show idAt l j = y; unfold idAt; rw [hy]
          rw [hid] at hfalse htrue
          have ht4 : decide (0 < (j : Int) + 1) = true := decide_eq_true (by omega)
          have ht6 : (j : Int) < (n : Int) := by omega
          clear hR hy hid
          by_cases hlt2 : y < x
          · have hF := htrue (by rw [hm, decide_eq_true hlt2, Bool.or_true]; rfl)
            have hd : decide (x ≤ y) = false := decide_eq_false (by omega)
            rw [hm] at cm
            clear hfalse htrue hm
            go_wp2_with (first
              | (go_at_call 95; (with_reducible refine (cm _).mono ?_); rintro e w2 ⟨rfl, rfl⟩)
              | fail)
            go_roundw
            case rel => exact ⟨j + 1 + 1, by omega, by go_num, hF.out, by trivial⟩
            case measure => simp [intOf]; omega
          · have hd : decide (x ≤ y) = true := decide_eq_true (by omega)
            have hd2 : decide (y < x) = false := decide_eq_false hlt2
            have hF := hfalse (by rw [hm, hd2]; simp)
            rw [hm] at cm
            clear hfalse htrue hm
            go_wp2_with (first
              | (go_at_call 95; (with_reducible refine (cm _).mono ?_); rintro e w2 ⟨rfl, rfl⟩)
              | fail)
            try rw [Exit.noGoto_ret]
            go_ret
            exact ⟨ret_bool hF.out.symm, rfl⟩
    · have hkn : k = n := by omega
      subst hkn
      have hF := Lib.hid (HE2.out hq)
      clear hq hR
      go_wp2_with fail
      try rw [Exit.noGoto_ret]
      go_ret
      exact ⟨ret_bool hF.out.symm, rfl⟩
/-- the index of an entity; 0 where it is none -/
def idx (a : Int) : Int := if kd a = 1 then pa a else 0
theorem ridx_any (a : Int) (h : Word a) (w : World) : Calls Try.prog 18 #[.int .u64 a] w fun e w' => e = .returned (.int .i64 (idx a)) ∧ w = w' := by
  have ck := fun w => rkind_any a h w
  have cp := fun w => rparts_any a h w
  unfold idx
  by_cases k : kd a = 1
  · rw [k] at ck
    rw [if_pos k]
    clear k
    generalize pa a = x at *
    generalize pb a = y at *
    go_enter Try.func18, Try.ntmps18
    go_wp2_with (first
      | (go_at_call 72; (with_reducible refine (ck _).mono ?_); rintro e w2 ⟨rfl, rfl⟩)
      | (go_at_call 73; (with_reducible refine (cp _).mono ?_); rintro e w3 ⟨rfl, rfl⟩)
      | fail)
    go_ret
    exact ⟨rfl, rfl⟩
  · rw [if_neg k]
    have k2 : (kd a != 1) = true := by simpa using k
    clear k cp
    generalize kd a = x at *
    go_enter Try.func18, Try.ntmps18
    go_wp2_with (first
      | (go_at_call 72; (with_reducible refine (ck _).mono ?_); rintro e w2 ⟨rfl, rfl⟩)
      | fail)
    go_ret
    exact ⟨rfl, rfl⟩
/-- has a row an index? -/
def hasI (l : List Int) (x : Int) : Bool := l.any fun a => idx a == x
set_option maxRecDepth 100000 in
set_option maxHeartbeats 4000000 in
theorem rhas_any (A : Option Addr) (n c : Nat) (l : List Int) (x : Int) (w : World) (hR : Reads w w.heap.size 1 A n (ids l)) (hW : ∀ x ∈ l, Word x) (hn : n ≤ 281474976710656) :
    Calls Try.prog 19 #[.slice A n c, .int .i64 x] w fun e w' => e = .returned (.bool (hasI l x)) ∧ w = w' := by
  have hl : l.length = n := by have := hR.1; rw [ids_len] at this; omega
  go_enter Try.func19, Try.ntmps19
  go_wp2_with fail
  go_loopw [9] (fun i wr => ∃ k : Nat, k ≤ n ∧ i = .int .i64 k ∧ hasI (l.take k) x = false ∧ wr = w)
    (fun i _ => n - (intOf i).toNat)
  case atStart => exact ⟨0, Nat.zero_le _, rfl, rfl, rfl⟩
  case round =>
    obtain ⟨k, hk, rfl, hq, rfl⟩ := hrel
    by_cases hlt : k < n
    · have e1 := List.getElem?_eq_getElem (l := l) (i := k) (by omega)
      generalize l[k]'(by omega) = a at e1
      have D1 := take_snoc e1
      have ci := fun w => ridx_any a (hW a (List.mem_of_getElem? e1)) w
      obtain ⟨b, off, rfl, hbl, g⟩ := ids_cell hR e1
      have hmem := List.mem_of_getElem? e1
      cases hx : (idx a == x)
      · have hf := Lib.hid (show hasI (l.take (k + 1)) x = false from by
          unfold hasI at hq ⊢
          rw [D1, List.any_append, hq]
          simp [hx])
        generalize idx a = y at *
        clear hq hR e1 D1 hmem hW
        go_wp2_with (first
          | (go_at_call 18; (with_reducible refine (ci _).mono ?_); rintro e w2 ⟨rfl, rfl⟩)
          | fail)
        go_roundw
        case rel => exact ⟨k + 1, by omega, by go_num, hf.out, by trivial⟩
        case measure => simp [intOf]; omega
      · have hf := Lib.hid (show hasI l x = true from by
          unfold hasI
          exact List.any_eq_true.2 ⟨a, hmem, hx⟩)
        generalize idx a = y at *
        clear hq hR e1 D1 hmem hW
        go_wp2_with (first
          | (go_at_call 18; (with_reducible refine (ci _).mono ?_); rintro e w2 ⟨rfl, rfl⟩)
          | fail)
        try rw [Exit.noGoto_ret]
        go_ret
        exact ⟨ret_bool hf.out.symm, rfl⟩
    · rw [List.take_of_length_le (by omega)] at hq
      have hf := Lib.hid hq
      clear hq hR
      go_wp2_with fail
      try rw [Exit.noGoto_ret]
      go_ret
      exact ⟨ret_bool hf.out.symm, rfl⟩
end Go.Proofs.Ytbcbknajhdaneaa
