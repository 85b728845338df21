/- What is proved: numerals to the base 16; contracts of strconv.FormatUint at base 16. -/
import Derived.Test.YtcfpnnkohjochaaDoorVaE
import Derived.Laws.IdiomStrings
import Derived.Laws.BitsLemmas
namespace Go.Proofs.YtcfpnnkohjochaaDoor
open Go.RowKit
set_option linter.unusedVariables false
set_option linter.unusedSimpArgs false
/-- a digit's sign -/
def hxB (n : Nat) : UInt8 := if n < 10 then UInt8.ofNat (48 + n) else UInt8.ofNat (87 + n)
/-- a number's numeral -/
def hexL (n : Nat) : List UInt8 := if n < 16 then [hxB n] else hexL (n / 16) ++ [hxB (n % 16)]
termination_by n
decreasing_by omega
theorem hexL_lt {n : Nat} (h : n < 16) : hexL n = [hxB n] := by rw [hexL, if_pos h]
theorem hexL_ge {n : Nat} (h : ¬ n < 16) : hexL n = hexL (n / 16) ++ [hxB (n % 16)] := by rw [hexL, if_neg h]
theorem and_mask (a b : Int) (n : Nat) (h : 0 ≤ a) (h1 : a < 18446744073709551616) (hb : b = 2 ^ n - 1) (hn : n ≤ 63) : bits .and .u64 a b = a % 2 ^ n := by
  have hp : (0 : Nat) < 2 ^ n := Nat.two_pow_pos n
  have hp2 : (2 : Nat) ^ n ≤ 2 ^ 63 := Nat.pow_le_pow_right (by omega) hn
  have e : (2 : Int) ^ n = ((2 ^ n : Nat) : Int) := by simp
  rw [hb, e, u64_and _ _ h h1 (by omega) (by omega)]
  have e2 : (((2 ^ n : Nat) : Int) - 1).toNat = 2 ^ n - 1 := by omega
  rw [e2, Nat.and_two_pow_sub_one_eq_mod, Int.natCast_emod, Int.toNat_of_nonneg h]
def signs36 : ByteArray := ⟨#[48, 49, 50, 51, 52, 53, 54, 55, 56, 57, 97, 98, 99, 100, 101, 102, 103, 104, 105, 106, 107, 108, 109, 110, 111, 112, 113, 114, 115, 116, 117, 118, 119, 120, 121, 122]⟩
theorem index36 (m : Nat) (h : m < 16) (W : World) : (Instr.index 9 (.string ⟨#[48, 49, 50, 51, 52, 53, 54, 55, 56, 57, 97, 98, 99, 100, 101, 102, 103, 104, 105, 106, 107, 108, 109, 110, 111, 112, 113, 114, 115, 116, 117, 118, 119, 120, 121, 122]⟩) (.int .u64 (m : Int))).run Tryd.prog W = .ok (.int .u8 ((hxB m).toNat : Int)) W := by
  have hu := run_underlying (P := Tryd.prog) Tryd.underlying9
  rcases (show m = 0 ∨ m = 1 ∨ m = 2 ∨ m = 3 ∨ m = 4 ∨ m = 5 ∨ m = 6 ∨ m = 7 ∨ m = 8 ∨ m = 9 ∨ m = 10 ∨ m = 11 ∨ m = 12 ∨ m = 13 ∨ m = 14 ∨ m = 15 from by omega) with rfl | rfl | rfl | rfl | rfl | rfl | rfl | rfl | rfl | rfl | rfl | rfl | rfl | rfl | rfl | rfl <;> simp [Instr.index, hu, go_sem, hxB] <;> rfl
theorem ipow16 (w : World) : Calls Tryd.prog 69 #[.int .i64 16] w fun e w' => e = .returned (.bool true) ∧ w = w' := by
  have h : bits .and .i64 16 15 = 0 := by decide +kernel
  go_enter Tryd.func69, Tryd.ntmps69
  go_wp2_with fail
  go_ret
  exact ⟨rfl, rfl⟩
/-- the one entry of the table that is wanted -/
def Tz (w : World) : Prop := 5 < w.heap.size ∧ w.cell? ⟨5, 15, none⟩ = some (.int .u8 4)
theorem Tz.below {w w' : World} (h : Tz w) (hb : Below w.heap.size w w') : Tz w' := ⟨Nat.lt_of_lt_of_le h.1 hb.size, cell_below' hb h.2 h.1⟩
theorem tz64 (w : World) (h : Tz w) : Calls Tryd.prog 82 #[.int .u64 16] w fun e w' => e = .returned (.int .i64 4) ∧ w = w' := by
  have c := h.2
  have h0 : IntKind.u64.wrap (-16) = 18446744073709551600 := by decide +kernel
  have h1 : bits .and .u64 16 18446744073709551600 = 16 := by decide +kernel
  have h2 : IntKind.u64.wrap (16 * 285870213051353865) = 4573923408821661840 := by decide +kernel
  have h3 : IntKind.u64.wrap 4573923408821661840 = 4573923408821661840 := by decide +kernel
  clear h
  go_enter Tryd.func82, Tryd.ntmps82
  go_wp2_with fail
  go_ret
  exact ⟨rfl, rfl⟩
theorem tz16 (w : World) (h : Tz w) : Calls Tryd.prog 70 #[.int .u64 16] w fun e w' => e = .returned (.int .i64 4) ∧ w = w' := by
  have c := tz64 w h
  go_enter Tryd.func70, Tryd.ntmps70
  go_wp2_with (first
    | (go_at_call 82; ((with_reducible refine c.mono ?_); rintro e w1 ⟨rfl, rfl⟩))
    | fail)
  go_ret
  exact ⟨rfl, rfl⟩
def byC (D : List UInt8) : List Value := D.map fun b => Value.int .u8 (b.toNat : Int)
/-- where the digits are written -/
structure FB (u0 : Nat) (w : World) (u i : Nat) (D : List UInt8) (cs : Array Value) (wr : World) : Prop where
  hi : i + D.length = 65
  lo : 50 ≤ i
  eq : hexL u0 = hexL u ++ D
  lt : u < 16 ^ (i - 49)
  blk : Blk wr w.heap.size 108 cs
  sz : cs.size = 65
  dr : cs.toList.drop i = byC D
  bel : Below w.heap.size w wr
theorem FB.u64 {u0 : Nat} {w : World} {u i : Nat} {D : List UInt8} {cs : Array Value} {wr : World} (h : FB u0 w u i D cs wr) : u < 18446744073709551616 := by
  have h1 := h.lt
  have h2 : 16 ^ (i - 49) ≤ 16 ^ 16 := Nat.pow_le_pow_right (by omega) (by have := h.hi; omega)
  omega
theorem FB.next {u0 : Nat} {w : World} {u j : Nat} {D : List UInt8} {cs : Array Value} {wr : World} (h : FB u0 w u (j + 1) D cs wr) (hu : 16 ≤ u) :
    FB u0 w (u / 16) j (hxB (u % 16) :: D) (cs.setIfInBounds j (.int .u8 ((hxB (u % 16)).toNat : Int))) (wr.setCell ⟨w.heap.size, j, none⟩ (.int .u8 ((hxB (u % 16)).toNat : Int))) := by
  have hj : 50 ≤ j := by
    rcases Nat.lt_or_ge j 50 with h0 | h0
    · have : j = 49 := by have := h.lo; omega
      have h1 := h.lt
      rw [this] at h1
      have : (16 : Nat) ^ (49 + 1 - 49) = 16 := by decide
      omega
    · exact h0
  have hj2 : j < 65 := by have := h.hi; omega
  refine ⟨by have := h.hi; simp; omega, hj, ?_, ?_, h.blk.set_ _ _, by rw [Array.size_setIfInBounds]; exact h.sz, ?_, h.bel.setCell (p := ⟨w.heap.size, j, none⟩) (Nat.le_refl _) _⟩
  · rw [h.eq, hexL_ge (n := u) (by omega), List.append_assoc]; rfl
  · have h1 := h.lt
    have e : j + 1 - 49 = (j - 49) + 1 := by omega
    rw [e, Nat.pow_succ] at h1
    omega
  · have hl : cs.toList.length = 65 := by rw [Array.length_toList, h.sz]
    rw [Array.toList_setIfInBounds]
    have hl2 : j < (cs.toList.set j (.int .u8 ((hxB (u % 16)).toNat : Int))).length := by rw [List.length_set]; omega
    rw [List.drop_eq_getElem_cons hl2, List.getElem_set_self, List.drop_set_of_lt (by omega), h.dr]
    rfl
set_option maxRecDepth 100000 in
set_option maxHeartbeats 4000000 in
theorem fbits_any (u0 : Nat) (hu0 : u0 < 18446744073709551616) (w : World) (hT : Tz w) :
    Calls Tryd.prog 60 #[.slice none 0 0, .int .u64 u0, .int .i64 16, .bool false, .bool false] w fun e w' => e = .returned (.tuple #[.slice none 0 0, .string ⟨(hexL u0).toArray⟩]) ∧ Below w.heap.size w w' := by
  have ct := fun (W : World) (h : Below w.heap.size w W) => tz16 W (hT.below h)
  have hb0 := (Below.refl w.heap.size w)
  clear hT
  go_enter Tryd.func60, Tryd.ntmps60
  go_wp2_with (first
    | (go_at_call 69; ((with_reducible refine (ipow16 _).mono ?_); rintro e w1 ⟨rfl, rfl⟩))
    | (go_at_call 70; ((with_reducible refine (ct _ (hb0.alloc (Nat.le_refl _) _)).mono ?_); rintro e w2 ⟨rfl, rfl⟩))
    | fail)
  go_loopw [1, 13] (fun uv iv wr => ∃ (u i : Nat) (D : List UInt8) (cs : Array Value), uv = .int .u64 u ∧ iv = .int .i64 i ∧ FB u0 w u i D cs wr)
    (fun uv _ _ => (intOf uv).toNat)
  case atStart => exact ⟨u0, 65, [], _, rfl, rfl, ⟨rfl, by omega, by simp, by omega, Blk.new _ _ _, rfl, rfl, hb0.alloc (Nat.le_refl _) _⟩⟩
  case round =>
    clear hb0 ct
    obtain ⟨u, i, D, cs, rfl, rfl, hF⟩ := hrel
    have hu64 := hF.u64
    by_cases hge : 16 ≤ u
    · obtain ⟨j, rfl⟩ : ∃ j, i = j + 1 := ⟨i - 1, by have := hF.lo; omega⟩
      have hj : j < 65 := by have := hF.hi; omega
      have hm : bits .and .u64 (u : Int) 15 = (u : Int) % 16 := and_mask _ _ 4 (by omega) (by omega) (by decide) (by decide)
      have hix := fun W => index36 (u % 16) (by omega) W
      have e16 : (((u % 16 : Nat)) : Int) = (u : Int) % 16 := by omega
      rw [e16] at hix
      have hce : wr.cell? ⟨w.heap.size, j, none⟩ = some (cs[j]'(by have := hF.sz; omega)) := by rw [hF.blk.cell, Array.getElem?_eq_getElem]
      have hfr := hF.blk.frozen j
      generalize cs[j]'(by have := hF.sz; omega) = vj at hce
      have HN := Lib.hid (hF.next hge)
      have i1 : (16 : Int) ≤ (u : Int) := by omega
      have i2 : (j : Int) < 65 := by omega
      generalize ((hxB (u % 16)).toNat : Int) = d at hix HN
      clear hF e16
      go_wp2_with fail
      go_roundw
      case rel => exact ⟨u / 16, j, hxB (u % 16) :: D, _, by go_num, by go_num, HN.out⟩
      case measure => simp [intOf]; omega
    · obtain ⟨j, rfl⟩ : ∃ j, i = j + 1 := ⟨i - 1, by have := hF.lo; omega⟩
      have hj : j < 65 := by have := hF.hi; omega
      have hix := fun W => index36 u (by omega) W
      have hce : wr.cell? ⟨w.heap.size, j, none⟩ = some (cs[j]'(by have := hF.sz; omega)) := by rw [hF.blk.cell, Array.getElem?_eq_getElem]
      have hfr := hF.blk.frozen j
      generalize cs[j]'(by have := hF.sz; omega) = vj at hce
      have hll : (hexL u0).length = 65 - j := by rw [hF.eq, hexL_lt (by omega)]; have := hF.hi; simp; omega
      have hal : Tryd.prog.arrayLen 108 = 65 := by kernel_rfl
      have hsl : ∀ W, (Instr.sliceAt 108 (.pointer (some ⟨w.heap.size, 0, none⟩)) (some (.int .i64 (j : Int))) none none).run Tryd.prog W = .ok (.slice (some ⟨w.heap.size, j, none⟩) (65 - j) (65 - j)) W := fun W => by
        rw [run_sliceAt_array_l W 108 ⟨w.heap.size, 0, none⟩ (by simp [Program.arrayLen, Program.elem, Tryd.underlying108]) .i64 (j : Int) (by omega) (by rw [hal]; omega)]
        go_simp
        try rw [hal]
        try simp
        try omega
      obtain ⟨wf, hwf⟩ : ∃ wf, wf = wr.setCell ⟨w.heap.size, j, none⟩ (.int .u8 ((hxB u).toNat : Int)) := ⟨_, rfl⟩
      have hbf : Below w.heap.size w wf := by rw [hwf]; exact hF.bel.setCell (p := ⟨w.heap.size, j, none⟩) (Nat.le_refl _) _
      have hbl : Blk wf w.heap.size 108 (cs.setIfInBounds j (.int .u8 ((hxB u).toNat : Int))) := by rw [hwf]; exact hF.blk.set_ _ _
      have hdr : (cs.setIfInBounds j (.int .u8 ((hxB u).toNat : Int))).toList.drop j = byC (hexL u0) := by
        have hl : cs.toList.length = 65 := by rw [Array.length_toList, hF.sz]
        rw [Array.toList_setIfInBounds]
        have hl2 : j < (cs.toList.set j (.int .u8 ((hxB u).toNat : Int))).length := by rw [List.length_set]; omega
        rw [List.drop_eq_getElem_cons hl2, List.getElem_set_self, List.drop_set_of_lt (by omega), hF.dr, hF.eq, hexL_lt (by omega)]
        rfl
      have hcv : (convert 71 9 (.slice (some ⟨w.heap.size, j, none⟩) (65 - j) (65 - j))).run Tryd.prog wf = .ok (.string ⟨(hexL u0).toArray⟩) wf := by
        have h := run_convert_bytes_back (P := Tryd.prog) wf 71 9 5 ⟨w.heap.size, j, none⟩ (65 - j) (hexL u0) Tryd.underlying71 Tryd.underlying5 Tryd.underlying9 (fun k hk => by
          rw [add_none, hbl.cell, ← Array.getElem?_toList]
          have h0 : ((cs.setIfInBounds j (.int .u8 ((hxB u).toNat : Int))).toList.drop j)[k]? = (byC (hexL u0))[k]? := by rw [hdr]
          rw [List.getElem?_drop] at h0
          rw [h0]
          unfold byC
          rw [List.getElem?_map, List.getElem?_eq_getElem hk]
          rfl)
        rw [hll] at h
        exact h
      have i1 : ¬ ((16 : Int) ≤ (u : Int)) := by omega
      have i2 : (j : Int) < 65 := by omega
      generalize ((hxB u).toNat : Int) = d at hix hwf
      have HC := Lib.hid hcv
      have HB := Lib.hid hbf
      clear hF hbl hdr hll hcv hbf hal
      have hcv := HC.out
      subst hwf
      go_wp2_with fail
      try rw [Exit.noGoto_ret]
      go_ret2
      exact ⟨rfl, HB.out⟩
theorem iformat_any (u0 : Nat) (hu0 : u0 < 18446744073709551616) (w : World) (hT : Tz w) :
    Calls Tryd.prog 52 #[.int .u64 u0, .int .i64 16] w fun e w' => e = .returned (.string ⟨(hexL u0).toArray⟩) ∧ Below w.heap.size w w' := by
  have cf := fbits_any u0 hu0 w hT
  clear hT
  go_enter Tryd.func52, Tryd.ntmps52
  go_wp2_with (first
    | (go_at_call 60; ((with_reducible refine cf.mono ?_); rintro e w1 ⟨rfl, hb⟩))
    | fail)
  go_ret
  exact ⟨rfl, hb⟩
theorem format_any (u0 : Nat) (hu0 : u0 < 18446744073709551616) (w : World) (hT : Tz w) :
    Calls Tryd.prog 44 #[.int .u64 u0, .int .i64 16] w fun e w' => e = .returned (.string ⟨(hexL u0).toArray⟩) ∧ Below w.heap.size w w' := by
  have cf := iformat_any u0 hu0 w hT
  clear hT
  go_enter Tryd.func44, Tryd.ntmps44
  go_wp2_with (first
    | (go_at_call 52; ((with_reducible refine cf.mono ?_); rintro e w1 ⟨rfl, hb⟩))
    | fail)
  go_ret
  exact ⟨rfl, hb⟩
end Go.Proofs.YtcfpnnkohjochaaDoor
