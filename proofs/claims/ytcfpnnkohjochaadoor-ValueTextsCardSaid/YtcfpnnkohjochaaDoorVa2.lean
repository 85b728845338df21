/- What is proved: the walk of the law ValueTexts. -/
import Derived.Test.YtcfpnnkohjochaaDoorVa1
namespace Go.Proofs.YtcfpnnkohjochaaDoor
open Go.RowKit
set_option linter.unusedVariables false
set_option linter.unusedSimpArgs false
set_option maxRecDepth 100000 in
set_option maxHeartbeats 16000000 in
theorem texts_law (A : Option Addr) (n c : Nat) (F : List RowA) (A2 : Option Addr) (n2 c2 : Nat) (l2 : List ByteArray) (w : World) (hE : Env w) (hn : n ≤ maxLen) (hn2 : n2 ≤ maxLen) (hs2 : ∀ s ∈ l2, s.size ≤ maxLen)
    (hR : RV .u64 w w.heap.size A n F) (hR2 : Reads w w.heap.size 1 A2 n2 (l2.map Value.string)) :
    Calls Tryd.prog 3 #[.slice A n c, .slice A2 n2 c2] w fun e w' => e = .returned (.bool true) ∧ Below w.heap.size w w' := by
  unfold maxLen at hn hn2
  have hB := Below.refl w.heap.size w
  have cw := fun (W : World) (h : Below w.heap.size w W) => wakes_any W (hE.below h)
  have HEB := Lib.hid (fun (W : World) (h : Below w.heap.size w W) => hE.below h)
  have HS2 := Lib.hid hs2
  clear hE hs2
  go_enter Tryd.func3, Tryd.ntmps3
  go_wp2_with (first
    | (go_at_call 9; ((with_reducible refine (cw _ hB).mono ?_); rintro e w1 ⟨rfl, hb1⟩; have hB := hB.trans (hb1.mono hB.size)))
    | fail)
  clear cw
  go_loopw [22] (fun i wr => ∃ k : Nat, k ≤ n ∧ i = .int .i64 k ∧ Below w.heap.size w wr)
    (fun i _ => n - (intOf i).toNat)
  case atStart => exact ⟨0, Nat.zero_le _, rfl, hB⟩
  case round =>
    clear hB
    obtain ⟨k, hk, rfl, hB⟩ := hrel
    rcases (show k = n ∨ (k = 8 ∧ k < n) ∨ (k ≠ 8 ∧ k < n) from by omega) with hkn | hlt | ⟨h6, hlt⟩
    case inr.inr =>
      obtain ⟨x, p, off, -, rfl, hbl, g, hx⟩ := nest_at hR hlt
      have g10 := cell_below' hB g hbl
      obtain ⟨lx, hlx⟩ : ∃ lx, x.l.take 8 = lx := ⟨_, rfl⟩
      obtain ⟨m, hm⟩ : ∃ m, lx.length = m := ⟨_, rfl⟩
      have hm8 : m ≤ 8 := by rw [← hm, ← hlx, List.length_take]; omega
      have hwd : ∀ y ∈ lx, Word y := fun y hy => word_wf (hx.2.2.2 y (List.mem_of_mem_take (by rw [hlx]; exact hy)))
      obtain ⟨V, hV⟩ := wints lx hwd
      have cg := fun (A : Option Addr) (c : Nat) W => right_v A m c lx hm (by omega) W
      have co := fun (W : World) (h : Below w.heap.size w W) => own_a x ((hx.keep h).more h.size) hlx hm
      have key := right_ways lx
      obtain ⟨xA, xn, xc, xl⟩ := x
      have HRR := Lib.hid hR
      have HN := Lib.hid hn
      have t6 : ((k : Int) == 8) = false := by simp; omega
      clear hlx hR hx g
      rcases key with ⟨k1, k2⟩ | ⟨k1, k2⟩
      · obtain ⟨T, hT⟩ : ∃ T : ByteArray, (⟨(txtV lx).toArray⟩ : ByteArray) = T := ⟨_, rfl⟩
        have ct := fun (A : Option Addr) (c : Nat) (W : World) (h : Below w.heap.size w W) (hR : Reads W W.heap.size 1 A m (ids lx)) => text_ok (A := A) (n := m) (c := c) (V := V) (T := T) (HEB.out W h).tz (by rw [hV]; exact hR) (by omega) (by rw [hV]; exact k2) (by rw [hV]; exact hT)
        have cu := fun (A : Option Addr) (c : Nat) (W : World) (hR : Reads W W.heap.size 1 A m (ids lx)) => rtext_any A m c lx hwd W hR (by have := of_decide_eq_true k1; omega)
        rw [hT] at cu
        rw [k1] at cg
        clear k1 k2 hT hV hwd hm
        go_wp2_with (first
          | (go_at_call 10; ((with_reducible refine (co _ hB).mono ?_); rintro e w2 ⟨A7, k7, rfl, ho7, hb7⟩; have HV := Lib.hid (Reads.of_own ho7); have hB := hB.trans (hb7.mono hB.size); have hv := Below.refl w2.heap.size w2; clear ho7 hb7))
          | (go_at_call 11; ((with_reducible refine (ct _ _ _ hB ((HV.out.below hv).more hv.size)).mono ?_); rintro e w3 ⟨rfl, hb3⟩; have hB := hB.trans (hb3.mono hB.size); have hv := hv.trans (hb3.mono hv.size)))
          | (go_at_call 12; ((with_reducible refine (cg _ _ _).mono ?_); rintro e w4 ⟨rfl, rfl⟩))
          | (go_at_call 13; ((with_reducible refine (cu _ _ _ ((HV.out.below hv).more hv.size)).mono ?_); rintro e w5 ⟨rfl, hb5⟩; have hB := hB.trans (hb5.mono hB.size); have hv := hv.trans (hb5.mono hv.size)))
          | fail)
        go_roundw
        case rel => exact ⟨k + 1, by omega, by go_num, hB⟩
        case measure => simp [intOf]; omega
      · have ct := fun (A : Option Addr) (c : Nat) (W : World) (h : Below w.heap.size w W) (hR : Reads W W.heap.size 1 A m (ids lx)) => text_no (A := A) (n := m) (c := c) (V := V) (HEB.out W h).tz (by rw [hV]; exact hR) (by omega) (by rw [hV]; exact k2)
        rw [k1] at cg
        clear k1 k2 hV hwd hm
        go_wp2_with (first
          | (go_at_call 10; ((with_reducible refine (co _ hB).mono ?_); rintro e w2 ⟨A7, k7, rfl, ho7, hb7⟩; have HV := Lib.hid (Reads.of_own ho7); have hB := hB.trans (hb7.mono hB.size); have hv := Below.refl w2.heap.size w2; clear ho7 hb7))
          | (go_at_call 11; ((with_reducible refine (ct _ _ _ hB ((HV.out.below hv).more hv.size)).mono ?_); rintro e w3 ⟨rfl, hb3⟩; have hB := hB.trans (hb3.mono hB.size); have hv := hv.trans (hb3.mono hv.size)))
          | (go_at_call 12; ((with_reducible refine (cg _ _ _).mono ?_); rintro e w4 ⟨rfl, rfl⟩))
          | fail)
        go_roundw
        case rel => exact ⟨k + 1, by omega, by go_num, hB⟩
        case measure => simp [intOf]; omega
    case inr.inl =>
      obtain ⟨rfl, hlt⟩ := hlt
      obtain ⟨x, p, off, -, rfl, hbl, g, hx⟩ := nest_at hR hlt
      have g10 := cell_below' hB g hbl
      obtain ⟨xA, xn, xc, xl⟩ := x
      clear hR hx g
      go_wp2_with fail
      clear hn
      go_loopw [51] (fun i wr => ∃ k : Nat, k ≤ n2 ∧ i = .int .i64 k ∧ Below w.heap.size w wr)
        (fun i _ => n2 - (intOf i).toNat)
      case atStart => exact ⟨0, Nat.zero_le _, rfl, hB⟩
      case round =>
        clear hB
        obtain ⟨k, hk, rfl, hB⟩ := hrel
        have hl2 : l2.length = n2 := by have := hR2.1; rw [List.length_map] at this; omega
        rcases (show k = n2 ∨ (k = 12 ∧ k < n2) ∨ (k ≠ 12 ∧ k < n2) from by omega) with hkn | hlt | ⟨h6, hlt⟩
        case inr.inr =>
          have e1 := List.getElem?_eq_getElem (l := l2) (i := k) (by omega)
          generalize l2[k]'(by omega) = s at e1
          obtain ⟨p, off, rfl, hbl, g⟩ := row_cell hR2 (k := k) (v := .string s) (by rw [List.getElem?_map, e1]; rfl)
          have g10 := cell_below' hB g hbl
          have t6 : ((k : Int) == 12) = false := by simp; omega
          have hss := HS2.out s (List.mem_of_getElem? e1)
          unfold maxLen at hss
          have HRR := Lib.hid hR2
          have HL2 := Lib.hid hl2
          clear hR2 e1 g hl2
          obtain ⟨S, hS⟩ : ∃ S, s.extract 0 (min (s.size : Int) 120).toNat = S := ⟨_, rfl⟩
          have hSs : S.size ≤ 120 := by rw [← hS, ByteArray.size_extract]; omega
          have cr := fun (W : World) (h : Below w.heap.size w W) => read_any S W (by omega) (HEB.out W h)
          have cq := fun (W : World) => rread_any S (by omega) W
          cases hrd : readP S with
          | none =>
            have cr := fun (W : World) (h : Below w.heap.size w W) => (cr W h).mono (fun e w' h => ReadC.rowN h hrd)
            have cq := fun (W : World) => (cq W).mono (R' := fun e w' => ∃ A n c, e = .returned (.tuple #[.slice A n c, .bool false]) ∧ Below W.heap.size W w') (fun e w' h => by
              obtain ⟨A, n, c, he, _, _, hb⟩ := h
              rw [hrd] at he
              exact ⟨A, n, c, he, hb⟩)
            have ce := fun (y : Option Addr) (k : Nat) (W : World) (hR : Reads W W.heap.size 1 y 0 (ids [])) => equal_v y 0 k [] none 0 0 [] W hR Reads.none_ (by omega) (by omega)
            rw [show (([] : List Int) == []) = true from rfl] at ce
            clear hrd
            go_wp2_with (first
              | (go_at_call 14; ((with_reducible refine (cr _ hB).mono ?_); rintro e w2 ⟨A7, k7, rfl, -, hr7, hb7⟩; have hB := hB.trans (hb7.mono hB.size); clear hb7))
              | (go_at_call 15; ((with_reducible refine (cq _).mono ?_); rintro e w3 ⟨A8, n8, k8, rfl, hb8⟩; have hB := hB.trans (hb8.mono hB.size); have hr7 := (hr7.below hb8).more hb8.size; clear hb8))
              | (go_at_call 16; ((with_reducible refine (ce _ _ _ hr7).mono ?_); rintro e w6 ⟨rfl, hb9⟩; have hB := hB.trans (hb9.mono hB.size); clear hb9))
              | fail)
            go_roundw
            case rel => exact ⟨k + 1, by omega, by go_num, hB⟩
            case measure => simp [intOf]; omega
          | some l =>
            obtain ⟨m, hm⟩ : ∃ m, l.length = m := ⟨_, rfl⟩
            have hm4 : m ≤ 65537 := by
              have h := hrd
              rw [readP_L] at h
              have := (txt_read h).2.1
              omega
            have cr := fun (W : World) (h : Below w.heap.size w W) => (cr W h).mono (fun e w' h => ReadC.row h hrd hm)
            have cq := fun (W : World) => (cq W).mono (R' := fun e w' => ∃ A c, e = .returned (.tuple #[.slice A m c, .bool true]) ∧ Reads w' w'.heap.size 1 A m (ids l) ∧ Below W.heap.size W w') (fun e w' h => by
              obtain ⟨A, n, c, he, _, hh, hb⟩ := h
              obtain ⟨e1, e2⟩ := hh l hrd
              rw [hrd] at he
              rw [hm] at e1
              subst e1
              exact ⟨A, c, he, e2, hb⟩)
            have ce := fun (y : Option Addr) (k : Nat) (z : Option Addr) (j : Nat) (W : World) (hR : Reads W W.heap.size 1 y m (ids l)) (hR2 : Reads W W.heap.size 1 z m (ids l)) => equal_v y m k l z m j l W hR hR2 (by omega) (by omega)
            rw [show (l == l) = true from by simp] at ce
            clear hrd hm
            go_wp2_with (first
              | (go_at_call 14; ((with_reducible refine (cr _ hB).mono ?_); rintro e w2 ⟨A7, k7, rfl, -, hr7, hb7⟩; have hB := hB.trans (hb7.mono hB.size); clear hb7))
              | (go_at_call 15; ((with_reducible refine (cq _).mono ?_); rintro e w3 ⟨A8, k8, rfl, hr8, hb8⟩; have hB := hB.trans (hb8.mono hB.size); have hr7 := (hr7.below hb8).more hb8.size; clear hb8))
              | (go_at_call 16; ((with_reducible refine (ce _ _ _ _ _ hr7 hr8).mono ?_); rintro e w6 ⟨rfl, hb9⟩; have hB := hB.trans (hb9.mono hB.size); clear hb9))
              | fail)
            go_roundw
            case rel => exact ⟨k + 1, by omega, by go_num, hB⟩
            case measure => simp [intOf]; omega
        case inr.inl =>
          obtain ⟨rfl, hlt⟩ := hlt
          have e1 := List.getElem?_eq_getElem (l := l2) (i := 12) (by omega)
          generalize l2[12]'(by omega) = s at e1
          obtain ⟨p, off, rfl, hbl, g⟩ := row_cell hR2 (k := 12) (v := .string s) (by rw [List.getElem?_map, e1]; rfl)
          have g10 := cell_below' hB g hbl
          clear hR2 e1 g hl2
          go_wp2_with fail
          try rw [Exit.noGoto_ret]
          go_ret
          exact ⟨rfl, hB⟩
        case inl =>
          subst hkn
          clear hR2
          go_wp2_with fail
          try rw [Exit.noGoto_ret]
          go_ret
          exact ⟨rfl, hB⟩
    case inl =>
      subst hkn
      clear hR
      go_wp2_with fail
      clear hn
      go_loopw [51] (fun i wr => ∃ k : Nat, k ≤ n2 ∧ i = .int .i64 k ∧ Below w.heap.size w wr)
        (fun i _ => n2 - (intOf i).toNat)
      case atStart => exact ⟨0, Nat.zero_le _, rfl, hB⟩
      case round =>
        clear hB
        obtain ⟨k, hk, rfl, hB⟩ := hrel
        have hl2 : l2.length = n2 := by have := hR2.1; rw [List.length_map] at this; omega
        rcases (show k = n2 ∨ (k = 12 ∧ k < n2) ∨ (k ≠ 12 ∧ k < n2) from by omega) with hkn | hlt | ⟨h6, hlt⟩
        case inr.inr =>
          have e1 := List.getElem?_eq_getElem (l := l2) (i := k) (by omega)
          generalize l2[k]'(by omega) = s at e1
          obtain ⟨p, off, rfl, hbl, g⟩ := row_cell hR2 (k := k) (v := .string s) (by rw [List.getElem?_map, e1]; rfl)
          have g10 := cell_below' hB g hbl
          have t6 : ((k : Int) == 12) = false := by simp; omega
          have hss := HS2.out s (List.mem_of_getElem? e1)
          unfold maxLen at hss
          have HRR := Lib.hid hR2
          have HL2 := Lib.hid hl2
          clear hR2 e1 g hl2
          obtain ⟨S, hS⟩ : ∃ S, s.extract 0 (min (s.size : Int) 120).toNat = S := ⟨_, rfl⟩
          have hSs : S.size ≤ 120 := by rw [← hS, ByteArray.size_extract]; omega
          have cr := fun (W : World) (h : Below w.heap.size w W) => read_any S W (by omega) (HEB.out W h)
          have cq := fun (W : World) => rread_any S (by omega) W
          cases hrd : readP S with
          | none =>
            have cr := fun (W : World) (h : Below w.heap.size w W) => (cr W h).mono (fun e w' h => ReadC.rowN h hrd)
            have cq := fun (W : World) => (cq W).mono (R' := fun e w' => ∃ A n c, e = .returned (.tuple #[.slice A n c, .bool false]) ∧ Below W.heap.size W w') (fun e w' h => by
              obtain ⟨A, n, c, he, _, _, hb⟩ := h
              rw [hrd] at he
              exact ⟨A, n, c, he, hb⟩)
            have ce := fun (y : Option Addr) (k : Nat) (W : World) (hR : Reads W W.heap.size 1 y 0 (ids [])) => equal_v y 0 k [] none 0 0 [] W hR Reads.none_ (by omega) (by omega)
            rw [show (([] : List Int) == []) = true from rfl] at ce
            clear hrd
            go_wp2_with (first
              | (go_at_call 14; ((with_reducible refine (cr _ hB).mono ?_); rintro e w2 ⟨A7, k7, rfl, -, hr7, hb7⟩; have hB := hB.trans (hb7.mono hB.size); clear hb7))
              | (go_at_call 15; ((with_reducible refine (cq _).mono ?_); rintro e w3 ⟨A8, n8, k8, rfl, hb8⟩; have hB := hB.trans (hb8.mono hB.size); have hr7 := (hr7.below hb8).more hb8.size; clear hb8))
              | (go_at_call 16; ((with_reducible refine (ce _ _ _ hr7).mono ?_); rintro e w6 ⟨rfl, hb9⟩; have hB := hB.trans (hb9.mono hB.size); clear hb9))
              | fail)
            go_roundw
            case rel => exact ⟨k + 1, by omega, by go_num, hB⟩
            case measure => simp [intOf]; omega
          | some l =>
            obtain ⟨m, hm⟩ : ∃ m, l.length = m := ⟨_, rfl⟩
            have hm4 : m ≤ 65537 := by
              have h := hrd
              rw [readP_L] at h
              have := (txt_read h).2.1
              omega
            have cr := fun (W : World) (h : Below w.heap.size w W) => (cr W h).mono (fun e w' h => ReadC.row h hrd hm)
            have cq := fun (W : World) => (cq W).mono (R' := fun e w' => ∃ A c, e = .returned (.tuple #[.slice A m c, .bool true]) ∧ Reads w' w'.heap.size 1 A m (ids l) ∧ Below W.heap.size W w') (fun e w' h => by
              obtain ⟨A, n, c, he, _, hh, hb⟩ := h
              obtain ⟨e1, e2⟩ := hh l hrd
              rw [hrd] at he
              rw [hm] at e1
              subst e1
              exact ⟨A, c, he, e2, hb⟩)
            have ce := fun (y : Option Addr) (k : Nat) (z : Option Addr) (j : Nat) (W : World) (hR : Reads W W.heap.size 1 y m (ids l)) (hR2 : Reads W W.heap.size 1 z m (ids l)) => equal_v y m k l z m j l W hR hR2 (by omega) (by omega)
            rw [show (l == l) = true from by simp] at ce
            clear hrd hm
            go_wp2_with (first
              | (go_at_call 14; ((with_reducible refine (cr _ hB).mono ?_); rintro e w2 ⟨A7, k7, rfl, -, hr7, hb7⟩; have hB := hB.trans (hb7.mono hB.size); clear hb7))
              | (go_at_call 15; ((with_reducible refine (cq _).mono ?_); rintro e w3 ⟨A8, k8, rfl, hr8, hb8⟩; have hB := hB.trans (hb8.mono hB.size); have hr7 := (hr7.below hb8).more hb8.size; clear hb8))
              | (go_at_call 16; ((with_reducible refine (ce _ _ _ _ _ hr7 hr8).mono ?_); rintro e w6 ⟨rfl, hb9⟩; have hB := hB.trans (hb9.mono hB.size); clear hb9))
              | fail)
            go_roundw
            case rel => exact ⟨k + 1, by omega, by go_num, hB⟩
            case measure => simp [intOf]; omega
        case inr.inl =>
          obtain ⟨rfl, hlt⟩ := hlt
          have e1 := List.getElem?_eq_getElem (l := l2) (i := 12) (by omega)
          generalize l2[12]'(by omega) = s at e1
          obtain ⟨p, off, rfl, hbl, g⟩ := row_cell hR2 (k := 12) (v := .string s) (by rw [List.getElem?_map, e1]; rfl)
          have g10 := cell_below' hB g hbl
          clear hR2 e1 g hl2
          go_wp2_with fail
          try rw [Exit.noGoto_ret]
          go_ret
          exact ⟨rfl, hB⟩
        case inl =>
          subst hkn
          clear hR2
          go_wp2_with fail
          try rw [Exit.noGoto_ret]
          go_ret
          exact ⟨rfl, hB⟩
theorem texts_row (A : Option Addr) (n c : Nat) (F : List RowA) (hn : n ≤ maxLen) (A2 : Option Addr) (n2 c2 : Nat) (l2 : List ByteArray) (hn2 : n2 ≤ maxLen) (hs2 : ∀ s ∈ l2, s.size ≤ maxLen) (w : World) (hE : Env w)
    (hR : RV .u64 w w.heap.size A n F) (hR2 : Reads w w.heap.size 1 A2 n2 (l2.map Value.string)) :
    Calls Tryd.prog 3 #[.slice A n c, .slice A2 n2 c2] w fun e w' => e = .returned (.bool true) ∧ Below w.heap.size w w' :=
  texts_law A n c F A2 n2 c2 l2 w hE hn hn2 hs2 hR hR2
end Go.Proofs.YtcfpnnkohjochaaDoor
