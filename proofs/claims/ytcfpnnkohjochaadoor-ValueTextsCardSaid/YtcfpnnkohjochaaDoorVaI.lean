/- What is proved: contracts of strconv.ParseUint at base 16, at texts of hexadecimal digits alone. -/
import Derived.Test.YtcfpnnkohjochaaDoorVaH
import Derived.Lib.ConvBytes
import Derived.Lib.Strings
import Derived.Lib.AtoiAllMem
import Derived.Laws.Strings3
import Derived.BigCall
import Derived.BigGuard
namespace Go.Proofs.YtcfpnnkohjochaaDoor
open Go.RowKit
set_option linter.unusedVariables false
set_option linter.unusedSimpArgs false
/-- is a byte a digit to the base 16? -/
def isHex (c : UInt8) : Bool := decide (48 ≤ c.toNat ∧ c.toNat ≤ 57) || decide (97 ≤ c.toNat ∧ c.toNat ≤ 102)
/-- its value -/
def dv (c : UInt8) : Nat := if c.toNat ≤ 57 then c.toNat - 48 else c.toNat - 87
theorem dv_lt {c : UInt8} (h : isHex c = true) : dv c < 16 := by
  unfold isHex at h
  unfold dv
  simp only [Bool.or_eq_true, decide_eq_true_eq] at h
  split <;> omega
/-- the number that digits say; none: it is too great -/
def pu16 (acc : Nat) : List UInt8 → Option Nat
  | [] => some acc
  | c :: l => if 1152921504606846976 ≤ acc then none else pu16 (acc * 16 + dv c) l
def puT : Option Nat → Value
  | some n => .tuple #[.int .u64 (n : Int), .nilIface]
  | none => .tuple #[.int .u64 18446744073709551615, .iface 115 (.int .i64 1)]
theorem or32 : ∀ c : Fin 256, 97 ≤ c.val → c.val ≤ 102 → bits .or .u8 (c.val : Int) 32 = (c.val : Int) := by decide +kernel
theorem or32' (c : UInt8) (h : 97 ≤ c.toNat) (h2 : c.toNat ≤ 102) : bits .or .u8 (c.toNat : Int) 32 = (c.toNat : Int) := or32 ⟨c.toNat, by omega⟩ h h2
set_option maxHeartbeats 32000000 in
set_option maxRecDepth 100000 in
theorem iparse_any (t : ByteArray) (hne : t.size ≠ 0) (hmax : t.size ≤ 9223372036854775806) (hall : t.data.toList.all isHex = true) (w : World) :
    Calls Tryd.prog 64 #[.string t, .int .i64 16, .int .i64 64] w fun e w' => e = .returned (puT (pu16 0 t.data.toList)) ∧ w' = Lib.bytesWorld w 5 t := by
  have hemp : t.toList.isEmpty = false := by
    rw [← decide_eq_emptyBytes]
    exact decide_eq_false (fun h => hne (by rw [h]; rfl))
  have hcv := Lib.run_convert_string_bytes (P := Tryd.prog) w 9 71 5 t (u := .string) Tryd.underlying9 Tryd.underlying71 Tryd.underlying5
  have hB : ∀ j, j < t.size → (Lib.bytesWorld w 5 t).cell? ⟨w.heap.size, j, none⟩ = some (.int .u8 (t.data.toList.getD j 0).toNat) := fun j hj => Lib.bytesWorld_cell w 5 t j hj
  obtain ⟨W1, hW1⟩ : ∃ W1, W1 = Lib.bytesWorld w 5 t := ⟨_, rfl⟩
  rw [← hW1] at hcv hB ⊢
  clear hW1
  obtain ⟨bs, hL⟩ : ∃ bs, bs = t.data.toList := ⟨_, rfl⟩
  have hLn : bs.length = t.size := by rw [hL, Lib.size_eq]
  rw [← hL] at hB hall ⊢
  clear hL
  have hmv : IntKind.u64.wrap (IntKind.u64.wrap 18446744073709551616 - 1) = 18446744073709551615 := by
    rw [IntKind.wrap_u64, IntKind.wrap_u64]
    decide
  have HALL := Lib.hid hall
  clear hall
  go_enter Tryd.func64, Tryd.ntmps64
  go_wp2
  go_loop [12, 13, 101] (fun vu vn vi => ∃ (k acc : Nat) (a : Int), vu = .bool false ∧ vn = .int .u64 a ∧ vi = .int .i64 k ∧ k ≤ t.size ∧ Hid (a = (acc : Int) ∧ acc < 18446744073709551616 ∧ pu16 0 bs = pu16 acc (bs.drop k)))
    (fun _ _ vi => t.size - (intOf vi).toNat)
  case atStart => exact ⟨0, 0, 0, rfl, rfl, rfl, by omega, rfl, by omega, rfl⟩
  case round =>
    obtain ⟨k, acc, a, rfl, rfl, rfl, hk, hh⟩ := hrel
    obtain ⟨ha, hacc, hdec⟩ := hh.out
    clear hh
    have a0 : 0 ≤ a := by omega
    have a1 : a < 18446744073709551616 := by omega
    by_cases hkn : k < t.size
    · have hc := hB k hkn
      have hdrop : bs.drop k = bs[k]'(by omega) :: bs.drop (k + 1) := List.drop_eq_getElem_cons (by omega)
      have hget : bs.getD k 0 = bs[k]'(by omega) := by simp [List.getD, List.getElem?_eq_getElem (show k < bs.length by omega)]
      have hhx : isHex (bs[k]'(by omega)) = true := List.all_eq_true.1 HALL.out _ (List.getElem_mem _)
      rw [hdrop] at hdec
      rw [hget] at hc
      generalize bs[k]'(by omega) = c at hc hdec hhx
      have hc256 : c.toNat < 256 := c.toNat_lt
      have hst : pu16 acc (c :: bs.drop (k + 1)) = if 1152921504606846976 ≤ acc then none else pu16 (acc * 16 + dv c) (bs.drop (k + 1)) := rfl
      rw [hst] at hdec
      have hdl := dv_lt hhx
      clear hB hdrop hget hst
      unfold isHex at hhx
      simp only [Bool.or_eq_true, decide_eq_true_eq] at hhx
      by_cases hcut : 1152921504606846976 ≤ acc
      · rw [if_pos hcut] at hdec
        have icut : 1152921504606846976 ≤ a := by omega
        rcases hhx with ⟨hd0, hd1⟩ | ⟨hd0, hd1⟩
        · clear hcut hacc ha hdl
          go_wp2
          go_ret2
          first | exact ⟨rfl, rfl⟩ | exact ⟨by rw [hdec]; rfl, rfl⟩
        · have hlow := or32' c hd0 hd1
          clear hcut hacc ha hdl
          go_wp2_with (go_at_call 75; refine (Tryd.internal_strconv_lower _ _).mono ?_; rintro e w' ⟨rfl, rfl⟩)
          go_ret2
          first | exact ⟨rfl, rfl⟩ | exact ⟨by rw [hdec]; rfl, rfl⟩
      · rw [if_neg hcut] at hdec
        have icut : a < 1152921504606846976 := by omega
        rcases hhx with ⟨hd0, hd1⟩ | ⟨hd0, hd1⟩
        · have hdv : dv c = c.toNat - 48 := by unfold dv; rw [if_pos (by omega)]
          rw [hdv] at hdec
          have HN : Hid (a * 16 + ((c.toNat : Int) - 48) = ((acc * 16 + (c.toNat - 48) : Nat) : Int) ∧ acc * 16 + (c.toNat - 48) < 18446744073709551616 ∧ pu16 0 bs = pu16 (acc * 16 + (c.toNat - 48)) (bs.drop (k + 1))) := Lib.hid ⟨by omega, by omega, hdec⟩
          have iov : a * 16 + ((c.toNat : Int) - 48) < 18446744073709551616 := by omega
          clear hcut hacc hdec ha hdl hdv
          go_wp2
          refine ⟨⟨k + 1, acc * 16 + (c.toNat - 48), a * 16 + ((c.toNat : Int) - 48), rfl, (by first | rfl | (congr 1; omega)), (by first | rfl | (congr 1; omega)), by omega, HN⟩, by simp [intOf]; omega⟩
        · have hlow := or32' c hd0 hd1
          have hdv : dv c = c.toNat - 87 := by unfold dv; rw [if_neg (by omega)]
          rw [hdv] at hdec
          have HN : Hid (a * 16 + ((c.toNat : Int) - 97 + 10) = ((acc * 16 + (c.toNat - 87) : Nat) : Int) ∧ acc * 16 + (c.toNat - 87) < 18446744073709551616 ∧ pu16 0 bs = pu16 (acc * 16 + (c.toNat - 87)) (bs.drop (k + 1))) := Lib.hid ⟨by omega, by omega, hdec⟩
          have iov : a * 16 + ((c.toNat : Int) - 97 + 10) < 18446744073709551616 := by omega
          clear hcut hacc hdec ha hdl hdv
          go_wp2_with (go_at_call 75; refine (Tryd.internal_strconv_lower _ _).mono ?_; rintro e w' ⟨rfl, rfl⟩)
          refine ⟨⟨k + 1, acc * 16 + (c.toNat - 87), a * 16 + ((c.toNat : Int) - 97 + 10), rfl, (by first | rfl | (congr 1; omega)), (by first | rfl | (congr 1; omega)), by omega, HN⟩, by simp [intOf]; omega⟩
    · have hkk : k = t.size := by omega
      subst hkk
      rw [List.drop_eq_nil_of_le (by omega)] at hdec
      have hF : pu16 acc [] = some acc := rfl
      rw [hF] at hdec
      subst ha
      clear hacc hF a0 a1
      go_wp2
      go_ret2
      first | exact ⟨rfl, rfl⟩ | exact ⟨by rw [hdec]; rfl, rfl⟩
set_option maxRecDepth 100000 in
theorem iparse_nil (w : World) : Calls Tryd.prog 64 #[.string ⟨#[]⟩, .int .i64 16, .int .i64 64] w fun e w' => e = .returned (.tuple #[.int .u64 0, .iface 115 (.int .i64 2)]) ∧ w = w' := by
  go_enter Tryd.func64, Tryd.ntmps64
  go_wp2_with fail
  go_ret2
  exact ⟨rfl, rfl⟩
end Go.Proofs.YtcfpnnkohjochaaDoor
