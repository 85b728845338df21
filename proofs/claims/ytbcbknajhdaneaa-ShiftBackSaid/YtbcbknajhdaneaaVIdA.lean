/- What is proved: contracts of package ident's functions over bits: packed, halves, within, the four tests of Kind. -/
import Derived.Test.YtbcbknajhdaneaaProg
import Derived.Test.YtbcbknajhdaneaaVWords
import Derived.WalkKit
import Derived.WalkLawsBesides
import Derived.WalkSpells
import Derived.Laws.EntriesVeiled
import Derived.Deep.QuietTactic
import Derived.BigQuiet
import Derived.Deep.RegionHeld3
import Derived.Deep.RegionWith
import Derived.Lib.Hide
namespace Go.Proofs.Ytbcbknajhdaneaa
open Go.RowKit
set_option linter.unusedVariables false
set_option linter.unusedSimpArgs false
theorem ret_int {k : IntKind} {a b : Int} (h : a = b) : Ending.returned (.int k a) = .returned (.int k b) := by rw [h]
theorem ret_bool {a b : Bool} (h : a = b) : Ending.returned (.bool a) = .returned (.bool b) := by rw [h]
def Word (a : Int) : Prop := 0 ≤ a ∧ a ≤ 18446744073709551615
def hi (a : Int) : Int := a / 4294967296 % 1073741824
def lo (a : Int) : Int := a % 1073741824
theorem hi_bd (a : Int) : 0 ≤ hi a ∧ hi a ≤ 1073741823 := by unfold hi; omega
theorem lo_bd (a : Int) : 0 ≤ lo a ∧ lo a ≤ 1073741823 := by unfold lo; omega
theorem and_mask (a b : Int) (n : Nat) (h : 0 ≤ a) (h1 : a < 18446744073709551616) (hb : b = 2 ^ n - 1) (hn : n ≤ 63) : bits .and .u64 a b = a % 2 ^ n := by
  have hp : (0 : Nat) < 2 ^ n := Nat.two_pow_pos n
  have hp2 : (2 : Nat) ^ n ≤ 2 ^ 63 := Nat.pow_le_pow_right (by omega) hn
  have e : (2 : Int) ^ n = ((2 ^ n : Nat) : Int) := by simp
  rw [hb, e, u64_and _ _ h h1 (by omega) (by omega)]
  have e2 : (((2 ^ n : Nat) : Int) - 1).toNat = 2 ^ n - 1 := by omega
  rw [e2, Nat.and_two_pow_sub_one_eq_mod, Int.natCast_emod, Int.toNat_of_nonneg h]
theorem or_add (x y : Int) (n : Nat) (hx : 0 ≤ x) (hx1 : x < 18446744073709551616) (hy : 0 ≤ y) (hy1 : y < 18446744073709551616) (h : x.toNat % 2 ^ n = 0) (h2 : y.toNat < 2 ^ n) : bits .or .u64 x y = x + y := by
  rw [u64_or _ _ hx hx1 hy hy1, nat_join n _ _ h h2]; omega
def i64s (l : List Int) : List Value := l.map (Value.int .i64)
theorem i64s_get {l : List Int} {k : Nat} {u : Value} (h : (i64s l)[k]? = some u) : ∃ x, l[k]? = some x ∧ u = .int .i64 x := by
  unfold i64s at h
  rw [List.getElem?_map] at h
  cases e : l[k]? with
  | none => rw [e] at h; cases h
  | some x => rw [e] at h; simp at h; exact ⟨x, rfl, h.symm⟩
theorem reads_lits (w : World) (l : List Value) (t : TypeId) (B n : Nat) (hn : n = l.length) (hB : w.heap.size + 1 ≤ B) : Reads (w.alloc (.cells l.toArray t)) B 1 (some ⟨w.heap.size, 0, none⟩) n l :=
  ⟨by omega, fun _ => ⟨_, rfl, by show w.heap.size < B; omega, fun j u hu => by
    have e : (⟨w.heap.size, 0, none⟩ : Addr).add j = ⟨w.heap.size, j, none⟩ := by
      unfold Addr.add; split
      · subst_vars; rfl
      · simp
    rw [e]
    have h := cell_of_row (w.alloc (.cells l.toArray t)) w.heap.size j l.toArray t (0, 0) (heap_alloc_new w _)
    rw [h]; simpa using hu⟩⟩
theorem reads_at (w : World) (b : Nat) (l : List Value) (t : TypeId) (B n : Nat) (hb : b = w.heap.size) (hn : n = l.length) (hB : w.heap.size + 1 ≤ B) : Reads (w.alloc (.cells l.toArray t)) B 1 (some ⟨b, 0, none⟩) n l := by
  subst hb; exact reads_lits w l t B n hn hB
/-- marks of ids -/
def Mark (m : Int) : Prop := m = 0 ∨ m = 4611686018427387904 ∨ m = 9223372036854775808
def Part (x : Int) : Prop := 0 ≤ x ∧ x ≤ 1073741823
theorem packed_any (m s f : Int) (hm : Mark m) (hs : Part s) (hf : Part f) (w : World) :
    Calls Try.prog 106 #[.int .u64 m, .int .i64 s, .int .i64 f] w fun e w' => e = .returned (.int .u64 (m + s * 4294967296 + f)) ∧ w = w' := by
  obtain ⟨s0, s1⟩ := hs
  obtain ⟨f0, f1⟩ := hf
  have hmb : 0 ≤ m ∧ m ≤ 9223372036854775808 := by rcases hm with rfl | rfl | rfl <;> omega
  have hm62 : m.toNat % 2 ^ 62 = 0 := by rcases hm with rfl | rfl | rfl <;> decide
  clear hm
  obtain ⟨m0, m1⟩ := hmb
  have o1 : bits .or .u64 m (s * 4294967296) = m + s * 4294967296 := or_add _ _ 62 (by omega) (by omega) (by omega) (by omega) hm62 (by omega)
  have o2 : bits .or .u64 (m + s * 4294967296) f = m + s * 4294967296 + f := or_add _ _ 32 (by omega) (by omega) (by omega) (by omega) (by omega) (by omega)
  clear hm62
  go_enter Try.func106, Try.ntmps106
  go_wp2
  go_ret
  exact ⟨rfl, rfl⟩
theorem halves_any (a : Int) (h : Word a) (w : World) :
    Calls Try.prog 104 #[.int .u64 a] w fun e w' => e = .returned (.tuple #[.int .i64 (hi a), .int .i64 (lo a)]) ∧ w = w' := by
  obtain ⟨h0, h1⟩ := h
  have e1 : bits .and .u64 (a / 4294967296) 1073741823 = a / 4294967296 % 1073741824 := and_mask _ _ 30 (by omega) (by omega) (by decide) (by decide)
  have e2 : bits .and .u64 a 1073741823 = a % 1073741824 := and_mask _ _ 30 (by omega) (by omega) (by decide) (by decide)
  go_enter Try.func104, Try.ntmps104
  go_wp2
  go_ret2
  exact ⟨rfl, rfl⟩
def inn (low most : Int) (l : List Int) : Bool := l.all fun x => decide (low ≤ x ∧ x ≤ most)
theorem inn_take (low most : Int) (l : List Int) (k : Nat) (x : Int) (h : l[k]? = some x) : inn low most (l.take (k + 1)) = (inn low most (l.take k) && decide (low ≤ x ∧ x ≤ most)) := by
  obtain ⟨hk, rfl⟩ := List.getElem?_eq_some_iff.1 h
  unfold inn
  rw [List.take_succ_eq_append_getElem hk, List.all_append]
  simp
theorem inn_false {low most : Int} {l : List Int} {k : Nat} {x : Int} (h : l[k]? = some x) (hx : ¬ (low ≤ x ∧ x ≤ most)) : inn low most l = false := by
  unfold inn
  rw [List.all_eq_false]
  exact ⟨x, List.mem_of_getElem? h, by simpa using hx⟩
set_option maxHeartbeats 1000000 in
theorem within_any (low most : Int) (A : Option Addr) (n c : Nat) (l : List Int) (w : World) (hR : Reads w w.heap.size 1 A n (i64s l)) (hn : n ≤ 65536) :
    Calls Try.prog 107 #[.int .i64 low, .int .i64 most, .slice A n c] w fun e w' => e = .returned (.bool (inn low most l)) ∧ w = w' := by
  have hln : l.length = n := by have := hR.1; simp [i64s] at this; omega
  go_enter Try.func107, Try.ntmps107
  go_wp2
  go_step3
  go_wp2
  go_step3
  go_wp2
  go_loop [7, 12] (fun o i => ∃ k : Nat, k ≤ n ∧ i = .int .i64 k ∧ o = .bool true ∧ inn low most (l.take k) = true)
    (fun _ i => n - (intOf i).toNat)
  case atStart => exact ⟨0, Nat.zero_le _, rfl, rfl, rfl⟩
  case round =>
    obtain ⟨k, hk, rfl, rfl, hf⟩ := hrel
    by_cases hlt : k < n
    · obtain ⟨ad, u, hA, hbl, hu, hcell⟩ := hR.at_ hlt
      obtain ⟨v, hv, rfl⟩ := i64s_get hu
      have HF := Lib.hid (inn_take low most l k v hv)
      have HV := Lib.hid hv
      have Hf := Lib.hid hf
      clear hu hv hf hR
      subst hA
      rcases (show v < low ∨ (low ≤ v ∧ most < v) ∨ (low ≤ v ∧ v ≤ most) from by omega) with h1 | ⟨h1, h2⟩ | ⟨h1, h2⟩
      · have hfin : inn low most l = false := inn_false HV.out (by omega)
        go_wp2_with fail
        try rw [Exit.noGoto_ret]
        go_ret
        exact ⟨ret_bool (by simp [*]), rfl⟩
      · have hfin : inn low most l = false := inn_false HV.out (by omega)
        have hd1 : decide (low ≤ v) = true := decide_eq_true h1
        have hd2 : decide (v ≤ most) = false := decide_eq_false (by omega)
        go_wp2_with fail
        try rw [Exit.noGoto_ret]
        go_ret
        exact ⟨ret_bool (by simp [*]), rfl⟩
      · have hd1 : decide (low ≤ v) = true := decide_eq_true h1
        have hd2 : decide (v ≤ most) = true := decide_eq_true h2
        go_wp2_with fail
        go_round
        case rel => exact ⟨k + 1, by omega, by go_num, by simp [h1, h2], by rw [HF.out, Hf.out]; simp [h1, h2]⟩
        case measure => simp [intOf]; omega
    · have e : l.take k = l := List.take_of_length_le (by omega)
      rw [e] at hf
      clear hR e
      go_wp2_with fail
      try rw [Exit.noGoto_ret]
      go_ret
      exact ⟨ret_bool (by simp [*]), rfl⟩
end Go.Proofs.Ytbcbknajhdaneaa
