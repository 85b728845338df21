/- What is proved: contracts of slices.Equal at ids, the law's small and pair, and trait's Replaced. -/
import Derived.Test.YtibjelonabhcmaaDoorTr3
namespace Go.Proofs.YtibjelonabhcmaaDoor
open Go.RowKit
set_option linter.unusedVariables false
set_option linter.unusedSimpArgs false
set_option maxRecDepth 100000 in
set_option maxHeartbeats 2000000 in
theorem equal_id (A : Option Addr) (n c : Nat) (l : List Int) (A2 : Option Addr) (n2 c2 : Nat) (l2 : List Int) (w : World) (hR : Reads w w.heap.size 1 A n (ids l)) (hR2 : Reads w w.heap.size 1 A2 n2 (ids l2)) (hn : n ≤ 281474976710656) (hn2 : n2 ≤ 281474976710656) :
    Calls Tryd.prog 38 #[.slice A n c, .slice A2 n2 c2] w fun e w' => e = .returned (.bool (l == l2)) ∧ Below w.heap.size w w' := by
  have hl : l.length = n := by have := hR.1; rw [ids_len] at this; omega
  have hl2 : l2.length = n2 := by have := hR2.1; rw [ids_len] at this; omega
  by_cases hnn : n = n2
  · subst hnn
    go_enter Tryd.func38, Tryd.ntmps38
    go_wp2_with fail
    go_loopw [13] (fun i wr => ∃ k : Nat, k ≤ n ∧ i = .int .i64 k ∧ l.take k = l2.take k ∧ Below w.heap.size w wr)
      (fun i _ => n - (intOf i).toNat)
    case atStart => exact ⟨0, Nat.zero_le _, rfl, rfl, Below.refl _ _⟩
    case round =>
      obtain ⟨k, hk, rfl, hq, hb⟩ := hrel
      by_cases hlt : k < n
      · have e1 := List.getElem?_eq_getElem (l := l) (i := k) (by omega)
        have e2 := List.getElem?_eq_getElem (l := l2) (i := k) (by omega)
        generalize l[k]'(by omega) = x at e1
        generalize l2[k]'(by omega) = y at e2
        have D1 := take_snoc e1
        have D2 := take_snoc e2
        obtain ⟨b, off, rfl, hbl, g⟩ := ids_cell hR e1
        obtain ⟨b2, off2, rfl, hbl2, g2⟩ := ids_cell hR2 e2
        have g10 := cell_below' hb g hbl
        have g20 := cell_below' hb g2 hbl2
        have i1 : (k : Int) < (n : Int) := by omega
        cases hb3 : (x == y)
        · have hf := Lib.hid (show (l == l2) = false from by
            rw [beq_eq_false_iff_ne]
            intro h
            subst h
            rw [e1] at e2
            injection e2 with e2
            subst e2
            simp at hb3)
          have hne : (x != y) = true := by simpa using hb3
          clear hq hR hR2 g g2 e1 e2 hb3 D1 D2
          go_wp2_with fail
          go_quiet (fail)
          go_wp2_with fail
          try rw [Exit.noGoto_ret]
          go_ret
          exact ⟨by rw [hf.out] <;> rfl, below_drewN' hb _⟩
        · have he : x = y := by simpa using hb3
          subst he
          have hf := Lib.hid (show l.take (k + 1) = l2.take (k + 1) from by rw [D1, D2, hq])
          clear hq hR hR2 g g2 e1 e2 hb3 D1 D2
          go_wp2_with fail
          go_quiet (fail)
          go_wp2_with fail
          go_roundw
          case rel => exact ⟨k + 1, by omega, by go_num, hf.out, below_drewN' hb _⟩
          case measure => simp [intOf]; omega
      · rw [List.take_of_length_le (by omega), List.take_of_length_le (by omega)] at hq
        have hf := Lib.hid (show (l == l2) = true from by simpa using hq)
        clear hq hR hR2
        go_wp2_with fail
        try rw [Exit.noGoto_ret]
        go_ret
        exact ⟨by rw [hf.out] <;> rfl, hb⟩
  · have hf := Lib.hid (show (l == l2) = false from by rw [beq_eq_false_iff_ne]; intro h; subst h; omega)
    have hne : ((n : Int) != (n2 : Int)) = true := by simp; omega
    clear hR hR2
    go_enter Tryd.func38, Tryd.ntmps38
    go_wp2_with fail
    go_ret
    exact ⟨by rw [hf.out] <;> rfl, Below.refl _ _⟩
theorem lpair_any (r t : Int) (hr : Part r) (ht : Part t) (w : World) : Calls Tryd.prog 37 #[.int .i64 r, .int .i64 t] w fun e w' => e = .returned (.int .u64 (9223372036854775808 + r * 4294967296 + t)) ∧ w = w' := by
  have cm := fun w => made_any 9223372036854775808 r t (.inr (.inr rfl)) hr ht w
  generalize 9223372036854775808 + r * 4294967296 + t = q at *
  go_enter Tryd.func37, Tryd.ntmps37
  go_wp2_with (first
    | (go_at_call 36; (with_reducible refine (cm _).mono ?_); rintro e w2 ⟨rfl, rfl⟩)
    | fail)
  go_ret
  exact ⟨rfl, rfl⟩
def f5 : Rel := ⟨5, false, true, 1, 2, 1⟩
def smallL : List Rel := [f0, f1, f5]
theorem rnew_own (w : World) : Calls Tryd.prog 16 #[] w (OwnR firstL w) := by
  go_enter Tryd.func16, Tryd.ntmps16
  go_wp2_with fail
  go_ret
  exact ⟨_, rfl, World.ownsRow_lit _ _ _ (Nat.le_refl _) (by simp [maxLen]) rfl, (Below.refl _ _).alloc (Nat.le_refl _) _⟩
set_option maxRecDepth 100000 in
set_option maxHeartbeats 2000000 in
theorem small_any (w : World) : Calls Tryd.prog 35 #[] w (OwnR smallL w) := by
  obtain ⟨i0, hi0, hz0, hz1, hz2⟩ := info_parts info_rel
  have cn := fun w => rnew_own w
  go_enter Tryd.func35, Tryd.ntmps35
  go_wp2_with (first
    | (go_at_call 16; (with_reducible refine (cn _).mono ?_); rintro e w2 ⟨v2, rfl, ho, hb2⟩; have HO := Lib.hid ho; obtain ⟨A1, c1, rfl⟩ := own_slice ho; clear ho)
    | (at_builtin
       refine wpList_append_any _ rfl (.tmp 3) (.tmp 6) _ rfl w.heap.size 31 i0 _ 6 40 Tryd.underlying22 hi0 hz0 hz1 hz2 rfl (by omega) _ firstL.length (rels firstL) rfl
         ?_ (w2.heap.size + 1) (some ⟨w2.heap.size, 0, none⟩) 1 1 (rels [f5]) rfl ?_ (rels_one [f5]) (by simp [maxLen, firstL]) (by simp [firstL]) ?_ ?_
       · exact HO.out.alloc _
       · exact lit_at _ _ [f5] rfl rfl
       · have := hb2.size; simp; omega
       intro v1 w1 hown1 hg1 hat1)
    | fail)
  have hb3 := own_grown_below (hb2.alloc hb2.size _) (HO.out.alloc _) hg1
  have hfin : OwnR smallL w (.returned v1) w1 := ⟨v1, rfl, hown1, hb3⟩
  clear hown1 hg1 hat1
  go_wp2_with fail
  go_ret
  exact hfin
end Go.Proofs.YtibjelonabhcmaaDoor
