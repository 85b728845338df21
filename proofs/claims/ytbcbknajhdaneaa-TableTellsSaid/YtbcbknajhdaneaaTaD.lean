/- What is proved: contracts of slices.Clone and Equal at values, words, ids and numbers. Printed by mkTa.py. -/
import Derived.Test.YtbcbknajhdaneaaTaC
namespace Go.Proofs.Ytbcbknajhdaneaa
open Go.RowKit
set_option linter.unusedVariables false
set_option linter.unusedSimpArgs false
theorem info_u64 : (Try.prog.info? 26).map (fun i => (i.zero, i.size, i.bytes)) = some (some (.int .u64 0), 1, 8) := by kernel_rfl
theorem info_id : (Try.prog.info? 27).map (fun i => (i.zero, i.size, i.bytes)) = some (some (.int .u64 0), 1, 8) := by kernel_rfl
theorem info_int : (Try.prog.info? 3).map (fun i => (i.zero, i.size, i.bytes)) = some (some (.int .i64 0), 1, 8) := by kernel_rfl
def ins (l : List Int) : List Value := l.map (Value.int .i64)
theorem ins_len (l : List Int) : (ins l).length = l.length := by unfold ins; rw [List.length_map]
theorem ins_one (l : List Int) : ∀ u ∈ ins l, u.oneCell' = true := by
  intro u hu
  obtain ⟨x, _, rfl⟩ := List.mem_map.1 hu
  rfl
/-- a row of the call's own -/
def OwnU (l : List Int) (w : World) (e : Ending) (w' : World) : Prop := ∃ v, e = .returned v ∧ w'.ownsRow w.heap.size 26 1 v l.length (ids l) ∧ Below w.heap.size w w'
def OwnD (l : List Int) (w : World) (e : Ending) (w' : World) : Prop := ∃ v, e = .returned v ∧ w'.ownsRow w.heap.size 27 1 v l.length (ids l) ∧ Below w.heap.size w w'
def OwnN (l : List Int) (w : World) (e : Ending) (w' : World) : Prop := ∃ v, e = .returned v ∧ w'.ownsRow w.heap.size 3 1 v l.length (ins l) ∧ Below w.heap.size w w'
set_option maxRecDepth 100000 in
set_option maxHeartbeats 1000000 in
theorem clone_v (A : Option Addr) (n c : Nat) (l : List Int) (w : World) (hR : Reads w w.heap.size 1 A n (ids l)) (hn : n ≤ 65536) :
    Calls Try.prog 37 #[.slice A n c] w (OwnU l w) := by
  have qT : ∀ (w : World) (a : Option Addr) (n c n' c' : Nat), (binOp .eql 44 (.slice a n c) (.slice none n' c')).run Try.prog w = .ok (.bool a.isNone) w := fun w a n c n' c' => Lib.run_eql_slice_nil w _ _ a n c n' c' Try.underlying44
  have hl : l.length = n := by have := hR.1; rw [ids_len] at this; omega
  obtain ⟨i0, hi0, hz0, hz1, hz2⟩ := info_parts info_u64
  have HL := Lib.hid hl
  clear hl
  cases A with
  | none =>
    have h0 : n = 0 := by
      rcases Nat.eq_zero_or_pos n with h0 | h0
      · exact h0
      · obtain ⟨ad, h, _⟩ := hR.2 h0
        cases h
    subst h0
    go_enter Try.func37, Try.ntmps37
    go_wp2
    go_ret
    have : l = [] := List.eq_nil_of_length_eq_zero HL.out
    subst this
    exact ⟨_, rfl, World.ownsRow_nil _ _ _ _, Below.refl _ _⟩
  | some a =>
    go_enter Try.func37, Try.ntmps37
    go_wp2_with (first
        | (at_builtin
           refine wpList_append_any _ rfl (.tmp 5) (.tmp 6) _ rfl w.heap.size 26 i0 _ 1 8 Try.underlying44 hi0 hz0 hz1 hz2 rfl (by omega) _ 0 [] rfl
             ?_ w.heap.size (some a) n c (ids l) rfl ?_ (ids_one l) (by simp only [maxLen]; omega) (by omega) (by simp) ?_
           · exact World.ownsRow_lit _ _ _ (Nat.le_refl _) (by simp [maxLen]) rfl
           · exact hR.alloc (Nat.le_refl _) _
           intro v1 w1 hown1 hg1 hat1))
    have hb1 := own_grown_below ((Below.refl w.heap.size w).alloc (Nat.le_refl _) _) (World.ownsRow_lit (e := 26) (size := 1) w #[] 0 (Nat.le_refl _) (by simp [maxLen]) rfl) hg1
    rw [Nat.zero_add, List.nil_append] at hown1
    have ho := hown1
    obtain ⟨A1, c1, rfl⟩ := own_slice hown1
    have HO := Lib.hid ho
    clear hown1 hg1 hat1 ho
    go_wp2
    go_ret
    exact ⟨_, rfl, by rw [HL.out]; exact HO.out, hb1⟩
set_option maxRecDepth 100000 in
set_option maxHeartbeats 1000000 in
theorem clone_u (A : Option Addr) (n c : Nat) (l : List Int) (w : World) (hR : Reads w w.heap.size 1 A n (ids l)) (hn : n ≤ 65536) :
    Calls Try.prog 63 #[.slice A n c] w (OwnU l w) := by
  have qT : ∀ (w : World) (a : Option Addr) (n c n' c' : Nat), (binOp .eql 43 (.slice a n c) (.slice none n' c')).run Try.prog w = .ok (.bool a.isNone) w := fun w a n c n' c' => Lib.run_eql_slice_nil w _ _ a n c n' c' Try.underlying43
  have hl : l.length = n := by have := hR.1; rw [ids_len] at this; omega
  obtain ⟨i0, hi0, hz0, hz1, hz2⟩ := info_parts info_u64
  have HL := Lib.hid hl
  clear hl
  cases A with
  | none =>
    have h0 : n = 0 := by
      rcases Nat.eq_zero_or_pos n with h0 | h0
      · exact h0
      · obtain ⟨ad, h, _⟩ := hR.2 h0
        cases h
    subst h0
    go_enter Try.func63, Try.ntmps63
    go_wp2
    go_ret
    have : l = [] := List.eq_nil_of_length_eq_zero HL.out
    subst this
    exact ⟨_, rfl, World.ownsRow_nil _ _ _ _, Below.refl _ _⟩
  | some a =>
    go_enter Try.func63, Try.ntmps63
    go_wp2_with (first
        | (at_builtin
           refine wpList_append_any _ rfl (.tmp 5) (.tmp 6) _ rfl w.heap.size 26 i0 _ 1 8 Try.underlying43 hi0 hz0 hz1 hz2 rfl (by omega) _ 0 [] rfl
             ?_ w.heap.size (some a) n c (ids l) rfl ?_ (ids_one l) (by simp only [maxLen]; omega) (by omega) (by simp) ?_
           · exact World.ownsRow_lit _ _ _ (Nat.le_refl _) (by simp [maxLen]) rfl
           · exact hR.alloc (Nat.le_refl _) _
           intro v1 w1 hown1 hg1 hat1))
    have hb1 := own_grown_below ((Below.refl w.heap.size w).alloc (Nat.le_refl _) _) (World.ownsRow_lit (e := 26) (size := 1) w #[] 0 (Nat.le_refl _) (by simp [maxLen]) rfl) hg1
    rw [Nat.zero_add, List.nil_append] at hown1
    have ho := hown1
    obtain ⟨A1, c1, rfl⟩ := own_slice hown1
    have HO := Lib.hid ho
    clear hown1 hg1 hat1 ho
    go_wp2
    go_ret
    exact ⟨_, rfl, by rw [HL.out]; exact HO.out, hb1⟩
set_option maxRecDepth 100000 in
set_option maxHeartbeats 1000000 in
theorem clone_d (A : Option Addr) (n c : Nat) (l : List Int) (w : World) (hR : Reads w w.heap.size 1 A n (ids l)) (hn : n ≤ 65536) :
    Calls Try.prog 62 #[.slice A n c] w (OwnD l w) := by
  have qT : ∀ (w : World) (a : Option Addr) (n c n' c' : Nat), (binOp .eql 22 (.slice a n c) (.slice none n' c')).run Try.prog w = .ok (.bool a.isNone) w := fun w a n c n' c' => Lib.run_eql_slice_nil w _ _ a n c n' c' Try.underlying22
  have hl : l.length = n := by have := hR.1; rw [ids_len] at this; omega
  obtain ⟨i0, hi0, hz0, hz1, hz2⟩ := info_parts info_id
  have HL := Lib.hid hl
  clear hl
  cases A with
  | none =>
    have h0 : n = 0 := by
      rcases Nat.eq_zero_or_pos n with h0 | h0
      · exact h0
      · obtain ⟨ad, h, _⟩ := hR.2 h0
        cases h
    subst h0
    go_enter Try.func62, Try.ntmps62
    go_wp2
    go_ret
    have : l = [] := List.eq_nil_of_length_eq_zero HL.out
    subst this
    exact ⟨_, rfl, World.ownsRow_nil _ _ _ _, Below.refl _ _⟩
  | some a =>
    go_enter Try.func62, Try.ntmps62
    go_wp2_with (first
        | (at_builtin
           refine wpList_append_any _ rfl (.tmp 5) (.tmp 6) _ rfl w.heap.size 27 i0 _ 1 8 Try.underlying22 hi0 hz0 hz1 hz2 rfl (by omega) _ 0 [] rfl
             ?_ w.heap.size (some a) n c (ids l) rfl ?_ (ids_one l) (by simp only [maxLen]; omega) (by omega) (by simp) ?_
           · exact World.ownsRow_lit _ _ _ (Nat.le_refl _) (by simp [maxLen]) rfl
           · exact hR.alloc (Nat.le_refl _) _
           intro v1 w1 hown1 hg1 hat1))
    have hb1 := own_grown_below ((Below.refl w.heap.size w).alloc (Nat.le_refl _) _) (World.ownsRow_lit (e := 27) (size := 1) w #[] 0 (Nat.le_refl _) (by simp [maxLen]) rfl) hg1
    rw [Nat.zero_add, List.nil_append] at hown1
    have ho := hown1
    obtain ⟨A1, c1, rfl⟩ := own_slice hown1
    have HO := Lib.hid ho
    clear hown1 hg1 hat1 ho
    go_wp2
    go_ret
    exact ⟨_, rfl, by rw [HL.out]; exact HO.out, hb1⟩
set_option maxRecDepth 100000 in
set_option maxHeartbeats 1000000 in
theorem clone_n (A : Option Addr) (n c : Nat) (l : List Int) (w : World) (hR : Reads w w.heap.size 1 A n (ins l)) (hn : n ≤ 65536) :
    Calls Try.prog 42 #[.slice A n c] w (OwnN l w) := by
  have qT : ∀ (w : World) (a : Option Addr) (n c n' c' : Nat), (binOp .eql 47 (.slice a n c) (.slice none n' c')).run Try.prog w = .ok (.bool a.isNone) w := fun w a n c n' c' => Lib.run_eql_slice_nil w _ _ a n c n' c' Try.underlying47
  have hl : l.length = n := by have := hR.1; rw [ins_len] at this; omega
  obtain ⟨i0, hi0, hz0, hz1, hz2⟩ := info_parts info_int
  have HL := Lib.hid hl
  clear hl
  cases A with
  | none =>
    have h0 : n = 0 := by
      rcases Nat.eq_zero_or_pos n with h0 | h0
      · exact h0
      · obtain ⟨ad, h, _⟩ := hR.2 h0
        cases h
    subst h0
    go_enter Try.func42, Try.ntmps42
    go_wp2
    go_ret
    have : l = [] := List.eq_nil_of_length_eq_zero HL.out
    subst this
    exact ⟨_, rfl, World.ownsRow_nil _ _ _ _, Below.refl _ _⟩
  | some a =>
    go_enter Try.func42, Try.ntmps42
    go_wp2_with (first
        | (at_builtin
           refine wpList_append_any _ rfl (.tmp 5) (.tmp 6) _ rfl w.heap.size 3 i0 _ 1 8 Try.underlying47 hi0 hz0 hz1 hz2 rfl (by omega) _ 0 [] rfl
             ?_ w.heap.size (some a) n c (ins l) rfl ?_ (ins_one l) (by simp only [maxLen]; omega) (by omega) (by simp) ?_
           · exact World.ownsRow_lit _ _ _ (Nat.le_refl _) (by simp [maxLen]) rfl
           · exact hR.alloc (Nat.le_refl _) _
           intro v1 w1 hown1 hg1 hat1))
    have hb1 := own_grown_below ((Below.refl w.heap.size w).alloc (Nat.le_refl _) _) (World.ownsRow_lit (e := 3) (size := 1) w #[] 0 (Nat.le_refl _) (by simp [maxLen]) rfl) hg1
    rw [Nat.zero_add, List.nil_append] at hown1
    have ho := hown1
    obtain ⟨A1, c1, rfl⟩ := own_slice hown1
    have HO := Lib.hid ho
    clear hown1 hg1 hat1 ho
    go_wp2
    go_ret
    exact ⟨_, rfl, by rw [HL.out]; exact HO.out, hb1⟩
set_option maxRecDepth 100000 in
set_option maxHeartbeats 2000000 in
theorem equal_v (A : Option Addr) (n c : Nat) (l : List Int) (A2 : Option Addr) (n2 c2 : Nat) (l2 : List Int) (w : World) (hR : Reads w w.heap.size 1 A n (ids l)) (hR2 : Reads w w.heap.size 1 A2 n2 (ids l2)) (hn : n ≤ 281474976710656) (hn2 : n2 ≤ 281474976710656) :
    Calls Try.prog 61 #[.slice A n c, .slice A2 n2 c2] w fun e w' => e = .returned (.bool (l == l2)) ∧ Below w.heap.size w w' := by
  have hl : l.length = n := by have := hR.1; rw [ids_len] at this; omega
  have hl2 : l2.length = n2 := by have := hR2.1; rw [ids_len] at this; omega
  by_cases hnn : n = n2
  · subst hnn
    go_enter Try.func61, Try.ntmps61
    go_wp2_with fail
    go_loopw [13] (fun i wr => ∃ k : Nat, k ≤ n ∧ i = .int .i64 k ∧ l.take k = l2.take k ∧ Below w.heap.size w wr)
      (fun i _ => n - (intOf i).toNat)
    case atStart => exact ⟨0, Nat.zero_le _, rfl, rfl, Below.refl _ _⟩
    case round =>
      obtain ⟨k, hk, rfl, hq, hb⟩ := hrel
      by_cases hlt : k < n
      · have e1 := List.getElem?_eq_getElem (l := l) (i := k) (by omega)
        have e2 := List.getElem?_eq_getElem (l := l2) (i := k) (by omega)
        generalize l[k]'(by omega) = x at e1
        generalize l2[k]'(by omega) = y at e2
        have D1 := take_snoc e1
        have D2 := take_snoc e2
        obtain ⟨b, off, rfl, hbl, g⟩ := ids_cell hR e1
        obtain ⟨b2, off2, rfl, hbl2, g2⟩ := ids_cell hR2 e2
        have g10 := cell_below' hb g hbl
        have g20 := cell_below' hb g2 hbl2
        have i1 : (k : Int) < (n : Int) := by omega
        cases hb3 : (x == y)
        · have hf := Lib.hid (show (l == l2) = false from by
            rw [beq_eq_false_iff_ne]
            intro h
            subst h
            rw [e1] at e2
            injection e2 with e2
            subst e2
            simp at hb3)
          have hne : (x != y) = true := by simpa using hb3
          clear hq hR hR2 g g2 e1 e2 hb3 D1 D2
          go_wp2_with fail
          go_quiet (fail)
          go_wp2_with fail
          try rw [Exit.noGoto_ret]
          go_ret
          exact ⟨by rw [hf.out] <;> rfl, below_drewN' hb _⟩
        · have he : x = y := by simpa using hb3
          subst he
          have hf := Lib.hid (show l.take (k + 1) = l2.take (k + 1) from by rw [D1, D2, hq])
          clear hq hR hR2 g g2 e1 e2 hb3 D1 D2
          go_wp2_with fail
          go_quiet (fail)
          go_wp2_with fail
          go_roundw
          case rel => exact ⟨k + 1, by omega, by go_num, hf.out, below_drewN' hb _⟩
          case measure => simp [intOf]; omega
      · rw [List.take_of_length_le (by omega), List.take_of_length_le (by omega)] at hq
        have hf := Lib.hid (show (l == l2) = true from by simpa using hq)
        clear hq hR hR2
        go_wp2_with fail
        try rw [Exit.noGoto_ret]
        go_ret
        exact ⟨by rw [hf.out] <;> rfl, hb⟩
  · have hf := Lib.hid (show (l == l2) = false from by rw [beq_eq_false_iff_ne]; intro h; subst h; omega)
    have hne : ((n : Int) != (n2 : Int)) = true := by simp; omega
    clear hR hR2
    go_enter Try.func61, Try.ntmps61
    go_wp2_with fail
    go_ret
    exact ⟨by rw [hf.out] <;> rfl, Below.refl _ _⟩
set_option maxRecDepth 100000 in
set_option maxHeartbeats 2000000 in
theorem equal_u (A : Option Addr) (n c : Nat) (l : List Int) (A2 : Option Addr) (n2 c2 : Nat) (l2 : List Int) (w : World) (hR : Reads w w.heap.size 1 A n (ids l)) (hR2 : Reads w w.heap.size 1 A2 n2 (ids l2)) (hn : n ≤ 281474976710656) (hn2 : n2 ≤ 281474976710656) :
    Calls Try.prog 122 #[.slice A n c, .slice A2 n2 c2] w fun e w' => e = .returned (.bool (l == l2)) ∧ Below w.heap.size w w' := by
  have hl : l.length = n := by have := hR.1; rw [ids_len] at this; omega
  have hl2 : l2.length = n2 := by have := hR2.1; rw [ids_len] at this; omega
  by_cases hnn : n = n2
  · subst hnn
    go_enter Try.func122, Try.ntmps122
    go_wp2_with fail
    go_loopw [13] (fun i wr => ∃ k : Nat, k ≤ n ∧ i = .int .i64 k ∧ l.take k = l2.take k ∧ Below w.heap.size w wr)
      (fun i _ => n - (intOf i).toNat)
    case atStart => exact ⟨0, Nat.zero_le _, rfl, rfl, Below.refl _ _⟩
    case round =>
      obtain ⟨k, hk, rfl, hq, hb⟩ := hrel
      by_cases hlt : k < n
      · have e1 := List.getElem?_eq_getElem (l := l) (i := k) (by omega)
        have e2 := List.getElem?_eq_getElem (l := l2) (i := k) (by omega)
        generalize l[k]'(by omega) = x at e1
        generalize l2[k]'(by omega) = y at e2
        have D1 := take_snoc e1
        have D2 := take_snoc e2
        obtain ⟨b, off, rfl, hbl, g⟩ := ids_cell hR e1
        obtain ⟨b2, off2, rfl, hbl2, g2⟩ := ids_cell hR2 e2
        have g10 := cell_below' hb g hbl
        have g20 := cell_below' hb g2 hbl2
        have i1 : (k : Int) < (n : Int) := by omega
        cases hb3 : (x == y)
        · have hf := Lib.hid (show (l == l2) = false from by
            rw [beq_eq_false_iff_ne]
            intro h
            subst h
            rw [e1] at e2
            injection e2 with e2
            subst e2
            simp at hb3)
          have hne : (x != y) = true := by simpa using hb3
          clear hq hR hR2 g g2 e1 e2 hb3 D1 D2
          go_wp2_with fail
          go_quiet (fail)
          go_wp2_with fail
          try rw [Exit.noGoto_ret]
          go_ret
          exact ⟨by rw [hf.out] <;> rfl, below_drewN' hb _⟩
        · have he : x = y := by simpa using hb3
          subst he
          have hf := Lib.hid (show l.take (k + 1) = l2.take (k + 1) from by rw [D1, D2, hq])
          clear hq hR hR2 g g2 e1 e2 hb3 D1 D2
          go_wp2_with fail
          go_quiet (fail)
          go_wp2_with fail
          go_roundw
          case rel => exact ⟨k + 1, by omega, by go_num, hf.out, below_drewN' hb _⟩
          case measure => simp [intOf]; omega
      · rw [List.take_of_length_le (by omega), List.take_of_length_le (by omega)] at hq
        have hf := Lib.hid (show (l == l2) = true from by simpa using hq)
        clear hq hR hR2
        go_wp2_with fail
        try rw [Exit.noGoto_ret]
        go_ret
        exact ⟨by rw [hf.out] <;> rfl, hb⟩
  · have hf := Lib.hid (show (l == l2) = false from by rw [beq_eq_false_iff_ne]; intro h; subst h; omega)
    have hne : ((n : Int) != (n2 : Int)) = true := by simp; omega
    clear hR hR2
    go_enter Try.func122, Try.ntmps122
    go_wp2_with fail
    go_ret
    exact ⟨by rw [hf.out] <;> rfl, Below.refl _ _⟩
set_option maxRecDepth 100000 in
set_option maxHeartbeats 2000000 in
theorem equal_d (A : Option Addr) (n c : Nat) (l : List Int) (A2 : Option Addr) (n2 c2 : Nat) (l2 : List Int) (w : World) (hR : Reads w w.heap.size 1 A n (ids l)) (hR2 : Reads w w.heap.size 1 A2 n2 (ids l2)) (hn : n ≤ 281474976710656) (hn2 : n2 ≤ 281474976710656) :
    Calls Try.prog 41 #[.slice A n c, .slice A2 n2 c2] w fun e w' => e = .returned (.bool (l == l2)) ∧ Below w.heap.size w w' := by
  have hl : l.length = n := by have := hR.1; rw [ids_len] at this; omega
  have hl2 : l2.length = n2 := by have := hR2.1; rw [ids_len] at this; omega
  by_cases hnn : n = n2
  · subst hnn
    go_enter Try.func41, Try.ntmps41
    go_wp2_with fail
    go_loopw [13] (fun i wr => ∃ k : Nat, k ≤ n ∧ i = .int .i64 k ∧ l.take k = l2.take k ∧ Below w.heap.size w wr)
      (fun i _ => n - (intOf i).toNat)
    case atStart => exact ⟨0, Nat.zero_le _, rfl, rfl, Below.refl _ _⟩
    case round =>
      obtain ⟨k, hk, rfl, hq, hb⟩ := hrel
      by_cases hlt : k < n
      · have e1 := List.getElem?_eq_getElem (l := l) (i := k) (by omega)
        have e2 := List.getElem?_eq_getElem (l := l2) (i := k) (by omega)
        generalize l[k]'(by omega) = x at e1
        generalize l2[k]'(by omega) = y at e2
        have D1 := take_snoc e1
        have D2 := take_snoc e2
        obtain ⟨b, off, rfl, hbl, g⟩ := ids_cell hR e1
        obtain ⟨b2, off2, rfl, hbl2, g2⟩ := ids_cell hR2 e2
        have g10 := cell_below' hb g hbl
        have g20 := cell_below' hb g2 hbl2
        have i1 : (k : Int) < (n : Int) := by omega
        cases hb3 : (x == y)
        · have hf := Lib.hid (show (l == l2) = false from by
            rw [beq_eq_false_iff_ne]
            intro h
            subst h
            rw [e1] at e2
            injection e2 with e2
            subst e2
            simp at hb3)
          have hne : (x != y) = true := by simpa using hb3
          clear hq hR hR2 g g2 e1 e2 hb3 D1 D2
          go_wp2_with fail
          go_quiet (fail)
          go_wp2_with fail
          try rw [Exit.noGoto_ret]
          go_ret
          exact ⟨by rw [hf.out] <;> rfl, below_drewN' hb _⟩
        · have he : x = y := by simpa using hb3
          subst he
          have hf := Lib.hid (show l.take (k + 1) = l2.take (k + 1) from by rw [D1, D2, hq])
          clear hq hR hR2 g g2 e1 e2 hb3 D1 D2
          go_wp2_with fail
          go_quiet (fail)
          go_wp2_with fail
          go_roundw
          case rel => exact ⟨k + 1, by omega, by go_num, hf.out, below_drewN' hb _⟩
          case measure => simp [intOf]; omega
      · rw [List.take_of_length_le (by omega), List.take_of_length_le (by omega)] at hq
        have hf := Lib.hid (show (l == l2) = true from by simpa using hq)
        clear hq hR hR2
        go_wp2_with fail
        try rw [Exit.noGoto_ret]
        go_ret
        exact ⟨by rw [hf.out] <;> rfl, hb⟩
  · have hf := Lib.hid (show (l == l2) = false from by rw [beq_eq_false_iff_ne]; intro h; subst h; omega)
    have hne : ((n : Int) != (n2 : Int)) = true := by simp; omega
    clear hR hR2
    go_enter Try.func41, Try.ntmps41
    go_wp2_with fail
    go_ret
    exact ⟨by rw [hf.out] <;> rfl, Below.refl _ _⟩
end Go.Proofs.Ytbcbknajhdaneaa
