/- What is proved: contracts of the document's number and any. -/
import Derived.Test.YtdckcnikoichmaaDoorIdV
namespace Go.Proofs.YtdckcnikoichmaaDoor
open Go.RowKit
set_option linter.unusedVariables false
set_option linter.unusedSimpArgs false
/-- the document's number -/
def rgo : Nat → List UInt8 → Option Nat
  | n, [] => some n
  | n, b :: r => if isDig b = true ∧ n ≤ 10000000 then rgo (10 * n + (b.toNat - 48)) r else none
def lead0 : List UInt8 → Bool
  | [] => true
  | b :: r => b == 48 && !r.isEmpty
def rnum (l : List UInt8) : Int := match rgo 0 l with | none => -1 | some n => if lead0 l = true then -1 else n
def rany (l : List UInt8) : Int := if l = [42] then 0 else if l = [48] then -1 else rnum l
theorem rgo_bad (n : Nat) (b : UInt8) (r : List UInt8) (h : ¬ (isDig b = true ∧ n ≤ 10000000)) : rgo n (b :: r) = none := by
  show (if isDig b = true ∧ n ≤ 10000000 then rgo (10 * n + (b.toNat - 48)) r else none) = none
  rw [if_neg h]
theorem rgo_good (n : Nat) (b : UInt8) (r : List UInt8) (h : isDig b = true) (h2 : n ≤ 10000000) : rgo n (b :: r) = rgo (10 * n + (b.toNat - 48)) r := by
  show (if isDig b = true ∧ n ≤ 10000000 then rgo (10 * n + (b.toNat - 48)) r else none) = _
  rw [if_pos ⟨h, h2⟩]
theorem drop_k (s : ByteArray) (k : Nat) (h : k < s.size) : s.data.toList.drop k = s[k] :: s.data.toList.drop (k + 1) := by
  rw [← List.getElem_cons_drop (by simpa using h)]; rfl
theorem rnum_none {l : List UInt8} (h : rgo 0 l = none) : rnum l = -1 := by unfold rnum; rw [h]
theorem rnum_some {l : List UInt8} {n : Nat} (h : rgo 0 l = some n) : rnum l = if lead0 l = true then -1 else (n : Int) := by unfold rnum; rw [h]
set_option maxHeartbeats 4000000 in
theorem rnum_any (s : ByteArray) (w : World) (hs : s.size ≤ 65536) :
    Calls Tryd.prog 42 #[.string s] w fun e w' => e = .returned (.int .i64 (rnum s.data.toList)) ∧ Below w.heap.size w w' := by
  go_enter Tryd.func42, Tryd.ntmps42
  go_wp2_with fail
  go_loop [3, 7] (fun nn i => ∃ k n : Nat, k ≤ s.size ∧ i = .int .i64 k ∧ nn = .int .i64 n ∧ n ≤ 100000009 ∧ rgo 0 s.data.toList = rgo n (s.data.toList.drop k))
    (fun _ i => s.size - (intOf i).toNat)
  case atStart => exact ⟨0, 0, Nat.zero_le _, rfl, rfl, by omega, rfl⟩
  case round =>
    obtain ⟨k, n, hk, rfl, rfl, hn, hr⟩ := hrel
    by_cases hlt : k < s.size
    · have i1 : (k : Int) < (s.size : Int) := by omega
      have hu : s[k].toNat ≤ 255 := by have := s[k].toNat_lt; omega
      rw [drop_k s k hlt] at hr
      by_cases d1 : s[k].toNat < 48
      · have e1 : decide (((s[k].toNat : Nat) : Int) < 48) = true := decide_eq_true (by omega)
        have hf := Lib.hid (rnum_none (hr.trans (rgo_bad n s[k] _ (by unfold isDig; simp; omega))))
        clear hr d1
        go_wp2_with fail
        try rw [Exit.noGoto_ret]
        go_ret
        exact ⟨by rw [hf.out] <;> rfl, Below.refl _ _⟩
      · have e1 : decide (((s[k].toNat : Nat) : Int) < 48) = false := decide_eq_false (by omega)
        by_cases d2 : 57 < s[k].toNat
        · have e2 : decide ((57 : Int) < ((s[k].toNat : Nat) : Int)) = true := decide_eq_true (by omega)
          have hf := Lib.hid (rnum_none (hr.trans (rgo_bad n s[k] _ (by unfold isDig; simp; omega))))
          clear hr d1 d2
          go_wp2_with fail
          try rw [Exit.noGoto_ret]
          go_ret
          exact ⟨by rw [hf.out] <;> rfl, Below.refl _ _⟩
        · have e2 : decide ((57 : Int) < ((s[k].toNat : Nat) : Int)) = false := decide_eq_false (by omega)
          by_cases d3 : 10000000 < n
          · have e3 : decide ((10000000 : Int) < (n : Int)) = true := decide_eq_true (by omega)
            have hf := Lib.hid (rnum_none (hr.trans (rgo_bad n s[k] _ (by omega))))
            clear hr d1 d2 d3
            go_wp2_with fail
            try rw [Exit.noGoto_ret]
            go_ret
            exact ⟨by rw [hf.out] <;> rfl, Below.refl _ _⟩
          · have e3 : decide ((10000000 : Int) < (n : Int)) = false := decide_eq_false (by omega)
            have hf := Lib.hid (hr.trans (rgo_good n s[k] _ (by unfold isDig; simp; omega) (by omega)))
            have hbd := Lib.hid (show 10 * n + (s[k].toNat - 48) ≤ 100000009 ∧ ((10 * n + (s[k].toNat - 48) : Nat) : Int) = 10 * (n : Int) + ((s[k].toNat : Int) - 48) from by omega)
            have l1 : (48 : Int) ≤ ((s[k].toNat : Nat) : Int) := by omega
            have l2 : ((s[k].toNat : Nat) : Int) ≤ 57 := by omega
            have l3 : (n : Int) ≤ 10000000 := by omega
            clear hr d1 d2 d3
            go_wp2_with fail
            go_round
            case rel => exact ⟨k + 1, 10 * n + (s[k].toNat - 48), by omega, by go_num, by rw [hbd.out.2], hbd.out.1, hf.out⟩
            case measure => simp [intOf]; omega
    · have ht : s.data.toList.drop k = [] := List.drop_of_length_le (by show s.size ≤ k; omega)
      rw [ht] at hr
      have hf := rnum_some (show rgo 0 s.data.toList = some n from hr)
      have htl := toList_eq s
      have hz : s.data.toList.length = s.size := rfl
      cases hl : s.data.toList with
      | nil =>
        have HL := Lib.hid hl
        rw [hl] at hf
        have hf := Lib.hid (show rnum [] = -1 from hf)
        have e0 : (s.toList == []) = true := by rw [htl, hl]; rfl
        have hsz : s.size = 0 := by rw [← hz, hl]; rfl
        clear hr ht hl htl
        go_wp2_with fail
        go_ret
        exact ⟨by rw [HL.out, hf.out] <;> rfl, Below.refl _ _⟩
      | cons c r =>
        have HL := Lib.hid hl
        rw [hl] at hf
        have e0 : (s.toList == []) = false := by rw [htl, hl]; rfl
        have hsz : 0 < s.size := by rw [← hz, hl]; simp
        have i0 : (0 : Int) < (s.size : Int) := by omega
        have h0 : ∀ h, s[0]'h = c := fun h => by
          have : (s.data.toList)[0]'(by rw [hl]; simp) = c := by simp [hl]
          exact this
        have hg : ∀ h, (((s[0]'h).toNat : Nat) : Int) = (c.toNat : Int) := fun h => by rw [h0 h]
        have e3 : (s.toList == [48]) = (c :: r == [48]) := by rw [htl, hl]
        clear hr ht hl htl h0
        by_cases hc : c = 48
        · have hc2 : (((c.toNat : Nat) : Int) == 48) = true := by rw [hc]; rfl
          cases r with
          | nil =>
            have e4 : (s.toList == [48]) = true := by rw [e3, hc]; rfl
            have hf := Lib.hid (show rnum [c] = (n : Int) from by rw [hf, hc]; rfl)
            clear e3 hc
            go_wp2_with fail
            go_ret
            exact ⟨by rw [HL.out, hf.out] <;> rfl, Below.refl _ _⟩
          | cons b r =>
            have e4 : (s.toList == [48]) = false := by rw [e3]; simp
            have hf := Lib.hid (show rnum (c :: b :: r) = -1 from by rw [hf, hc]; rfl)
            clear e3 hc
            go_wp2_with fail
            go_ret
            exact ⟨by rw [HL.out, hf.out] <;> rfl, Below.refl _ _⟩
        · have hc2 : (((c.toNat : Nat) : Int) == 48) = false := by
            have : c.toNat ≠ 48 := fun e => hc (UInt8.toNat_inj.1 e)
            simp; omega
          have hf := Lib.hid (show rnum (c :: r) = (n : Int) from by
            rw [hf]
            have : (c == 48) = false := by simpa using hc
            show (if (c == 48 && !r.isEmpty) = true then (-1 : Int) else n) = n
            rw [this]; rfl)
          clear e3 hc
          go_wp2_with fail
          go_ret
          exact ⟨by rw [HL.out, hf.out] <;> rfl, Below.refl _ _⟩
theorem rany_any (s : ByteArray) (w : World) (hs : s.size ≤ 65536) :
    Calls Tryd.prog 43 #[.string s] w fun e w' => e = .returned (.int .i64 (rany s.data.toList)) ∧ Below w.heap.size w w' := by
  have hN := fun w => rnum_any s w hs
  have htl := toList_eq s
  by_cases h1 : s.data.toList = [42]
  · have e1 : (s.toList == [42]) = true := by rw [htl, h1]; rfl
    have hf := Lib.hid (show rany s.data.toList = 0 from by unfold rany; rw [if_pos h1])
    clear htl h1 hN
    go_enter Tryd.func43, Tryd.ntmps43
    go_wp2_with fail
    go_ret
    exact ⟨by rw [hf.out] <;> rfl, Below.refl _ _⟩
  · have e1 : (s.toList == [42]) = false := by rw [htl]; simpa using h1
    by_cases h2 : s.data.toList = [48]
    · have e2 : (s.toList == [48]) = true := by rw [htl, h2]; rfl
      have hf := Lib.hid (show rany s.data.toList = -1 from by unfold rany; rw [if_neg h1, if_pos h2])
      clear htl h1 h2 hN
      go_enter Tryd.func43, Tryd.ntmps43
      go_wp2_with fail
      go_ret
      exact ⟨by rw [hf.out] <;> rfl, Below.refl _ _⟩
    · have e2 : (s.toList == [48]) = false := by rw [htl]; simpa using h2
      have hf := Lib.hid (show rany s.data.toList = rnum s.data.toList from by unfold rany; rw [if_neg h1, if_neg h2])
      clear htl h1 h2
      rw [hf.out]
      go_enter Tryd.func43, Tryd.ntmps43
      go_wp2_with fail
      refine (hN _).mono ?_
      rintro e w' ⟨rfl, hb1⟩
      go_wp2_with fail
      go_ret
      exact ⟨rfl, hb1⟩
end Go.Proofs.YtdckcnikoichmaaDoor
