/- What is proved: contracts of column's Same and of the document's. -/
import Derived.Test.YtbcbknajhdaneaaTaF
namespace Go.Proofs.Ytbcbknajhdaneaa
open Go.RowKit
set_option linter.unusedVariables false
set_option linter.unusedSimpArgs false
/-- are columns one? -/
def colS (W R : Int) (l : List Int) (W2 R2 : Int) (l2 : List Int) : Bool := W == W2 && (R == R2 && l == l2)
set_option maxRecDepth 100000 in
set_option maxHeartbeats 4000000 in
theorem csame_any (W R : Int) (A : Option Addr) (n c : Nat) (l : List Int) (W2 R2 : Int) (A2 : Option Addr) (n2 c2 : Nat) (l2 : List Int) (w : World) (hR : Reads w w.heap.size 1 A n (ids l)) (hR2 : Reads w w.heap.size 1 A2 n2 (ids l2)) (hn : n ≤ 281474976710656) (hn2 : n2 ≤ 281474976710656) :
    Calls Try.prog 90 #[colV W R A n c, colV W2 R2 A2 n2 c2] w fun e w' => e = .returned (.bool (colS W R l W2 R2 l2)) ∧ Below w.heap.size w w' := by
  have hB := ((Below.refl w.heap.size w).alloc (Nat.le_refl _) (.cells #[.int .i64 W, .int .i64 R, .slice A n c] 68)).alloc (by simp) (.cells #[.int .i64 W2, .int .i64 R2, .slice A2 n2 c2] 68)
  have ce := fun (W : World) (h : Below w.heap.size w W) => equal_u A n c l A2 n2 c2 l2 W ((hR.below h).more h.size) ((hR2.below h).more h.size) hn hn2
  clear hR hR2
  unfold colV colS
  cases e1 : (W == W2)
  · go_enter Try.func90, Try.ntmps90
    go_wp2_with fail
    go_ret
    exact ⟨rfl, hB⟩
  · cases e2 : (R == R2)
    · go_enter Try.func90, Try.ntmps90
      go_wp2_with fail
      go_ret
      exact ⟨rfl, hB⟩
    · generalize (l == l2) = b at ce ⊢
      go_enter Try.func90, Try.ntmps90
      go_wp2_with (first
        | (go_at_call 122; ((with_reducible refine (ce _ hB).mono ?_); rintro e w1 ⟨rfl, hb1⟩; have hB := hB.trans (hb1.mono hB.size)))
        | fail)
      go_ret
      exact ⟨by simp, hB⟩
set_option maxRecDepth 100000 in
set_option maxHeartbeats 4000000 in
theorem rcsame_any (W R : Int) (A : Option Addr) (n c : Nat) (l : List Int) (W2 R2 : Int) (A2 : Option Addr) (n2 c2 : Nat) (l2 : List Int) (w : World) (hR : Reads w w.heap.size 1 A n (ids l)) (hR2 : Reads w w.heap.size 1 A2 n2 (ids l2)) (hn : n ≤ 281474976710656) (hn2 : n2 ≤ 281474976710656) :
    Calls Try.prog 77 #[colV W R A n c, colV W2 R2 A2 n2 c2] w fun e w' => e = .returned (.bool (colS W R l W2 R2 l2)) ∧ Below w.heap.size w w' := by
  have hB := ((Below.refl w.heap.size w).alloc (Nat.le_refl _) (.cells #[.int .i64 W, .int .i64 R, .slice A n c] 68)).alloc (by simp) (.cells #[.int .i64 W2, .int .i64 R2, .slice A2 n2 c2] 68)
  have hl : l.length = n := by have := hR.1; rw [ids_len] at this; omega
  have hl2 : l2.length = n2 := by have := hR2.1; rw [ids_len] at this; omega
  have S1 := (hR.below hB).more hB.size
  have S2 := (hR2.below hB).more hB.size
  clear hR hR2
  unfold colV colS
  cases e1 : (W == W2)
  · have d1 : (W != W2) = true := by rw [bne, e1]; rfl
    clear S1 S2
    go_enter Try.func77, Try.ntmps77
    go_wp2_with fail
    go_ret
    exact ⟨rfl, hB⟩
  · have d1 : (W != W2) = false := by rw [bne, e1]; rfl
    cases e2 : (R == R2)
    · have d2 : (R != R2) = true := by rw [bne, e2]; rfl
      clear S1 S2
      go_enter Try.func77, Try.ntmps77
      go_wp2_with fail
      go_ret
      exact ⟨rfl, hB⟩
    · have d2 : (R != R2) = false := by rw [bne, e2]; rfl
      by_cases hnn : n = n2
      · subst hnn
        have d3 : ((n : Int) != (n : Int)) = false := by simp
        go_enter Try.func77, Try.ntmps77
        go_wp2_with fail
        go_loopw [31] (fun i wr => ∃ k : Nat, k ≤ n ∧ i = .int .i64 k ∧ l.take k = l2.take k ∧ wr = (w.alloc (.cells #[.int .i64 W, .int .i64 R, .slice A n c] 68)).alloc (.cells #[.int .i64 W2, .int .i64 R2, .slice A2 n c2] 68))
          (fun i _ => n - (intOf i).toNat)
        case atStart => exact ⟨0, Nat.zero_le _, rfl, rfl, rfl⟩
        case round =>
          obtain ⟨k, hk, rfl, hq, rfl⟩ := hrel
          by_cases hlt : k < n
          · have f1 := List.getElem?_eq_getElem (l := l) (i := k) (by omega)
            have f2 := List.getElem?_eq_getElem (l := l2) (i := k) (by omega)
            generalize l[k]'(by omega) = x at f1
            generalize l2[k]'(by omega) = y at f2
            have D1 := take_snoc f1
            have D2 := take_snoc f2
            obtain ⟨b, off, rfl, hbl, g⟩ := ids_cell S1 f1
            obtain ⟨b2, off2, rfl, hbl2, g2⟩ := ids_cell S2 f2
            have i1 : (k : Int) < (n : Int) := by omega
            cases hb3 : (x == y)
            · have hf := Lib.hid (show (l == l2) = false from by
                rw [beq_eq_false_iff_ne]
                intro h
                subst h
                rw [f1] at f2
                injection f2 with f2
                subst f2
                simp at hb3)
              have hne : (x != y) = true := by simpa using hb3
              clear hq S1 S2 f1 f2 hb3 D1 D2
              go_wp2_with fail
              try rw [Exit.noGoto_ret]
              go_ret
              exact ⟨by rw [hf.out] <;> rfl, hB⟩
            · have he : x = y := by simpa using hb3
              subst he
              have hf := Lib.hid (show l.take (k + 1) = l2.take (k + 1) from by rw [D1, D2, hq])
              have hne : (x != x) = false := by simp
              clear hq S1 S2 f1 f2 hb3 D1 D2
              go_wp2_with fail
              go_roundw
              case rel => exact ⟨k + 1, by omega, by go_num, hf.out, by trivial⟩
              case measure => simp [intOf]; omega
          · rw [List.take_of_length_le (by omega), List.take_of_length_le (by omega)] at hq
            have hf := Lib.hid (show (l == l2) = true from by simpa using hq)
            clear hq S1 S2
            go_wp2_with fail
            try rw [Exit.noGoto_ret]
            go_ret
            exact ⟨by rw [hf.out] <;> rfl, hB⟩
      · have hf := Lib.hid (show (l == l2) = false from by rw [beq_eq_false_iff_ne]; intro h; subst h; omega)
        have hne : ((n : Int) != (n2 : Int)) = true := by simp; omega
        clear S1 S2
        go_enter Try.func77, Try.ntmps77
        go_wp2_with fail
        go_ret
        exact ⟨by rw [hf.out] <;> rfl, hB⟩
end Go.Proofs.Ytbcbknajhdaneaa
