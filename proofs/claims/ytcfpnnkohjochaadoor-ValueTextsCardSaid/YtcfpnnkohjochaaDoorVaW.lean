/- What is proved: the walk of the law ValueMay. -/
import Derived.Test.YtcfpnnkohjochaaDoorVaV
namespace Go.Proofs.YtcfpnnkohjochaaDoor
open Go.RowKit
set_option linter.unusedVariables false
set_option linter.unusedSimpArgs false
theorem right_ways (l : List Int) : (decide (l.length ≤ 4) = true ∧ chkV l = 0) ∨ (decide (l.length ≤ 4) = false ∧ chkV l = 140) := by
  unfold chkV
  by_cases h : l.length ≤ 4
  · left; exact ⟨decide_eq_true h, by rw [if_neg (by omega)]⟩
  · right; exact ⟨decide_eq_false h, by rw [if_pos (by omega)]⟩
set_option maxRecDepth 100000 in
set_option maxHeartbeats 16000000 in
theorem may_law (A : Option Addr) (n c : Nat) (F : List RowA) (A2 : Option Addr) (n2 c2 : Nat) (l2 : List Int) (w : World) (hE : Env w) (hn : n ≤ maxLen) (hn2 : n2 ≤ 281474976710656)
    (hR : RV .u64 w w.heap.size A n F) (hR2 : Reads w w.heap.size 1 A2 n2 (l2.map (Value.int .i64))) :
    Calls Tryd.prog 7 #[.slice A n c, .slice A2 n2 c2] w fun e w' => e = .returned (.bool true) ∧ Below w.heap.size w w' := by
  unfold maxLen at hn
  have hB := Below.refl w.heap.size w
  have cw := fun (W : World) (h : Below w.heap.size w W) => wakes_any W (hE.below h)
  clear hE
  go_enter Tryd.func7, Tryd.ntmps7
  go_wp2_with (first
    | (go_at_call 9; ((with_reducible refine (cw _ hB).mono ?_); rintro e w1 ⟨rfl, hb1⟩; have hB := hB.trans (hb1.mono hB.size)))
    | fail)
  clear cw
  go_loopw [22] (fun i wr => ∃ k : Nat, k ≤ n ∧ i = .int .i64 k ∧ Below w.heap.size w wr)
    (fun i _ => n - (intOf i).toNat)
  case atStart => exact ⟨0, Nat.zero_le _, rfl, hB⟩
  case round =>
    clear hB
    obtain ⟨k, hk, rfl, hB⟩ := hrel
    rcases (show k = n ∨ (k = 6 ∧ k < n) ∨ (k ≠ 6 ∧ k < n) from by omega) with hkn | hlt | ⟨h6, hlt⟩
    case inr.inr =>
      obtain ⟨x, p, off, -, rfl, hbl, g, hx⟩ := nest_at hR hlt
      have g10 := cell_below' hB g hbl
      obtain ⟨lx, hlx⟩ : ∃ lx, x.l.take 8 = lx := ⟨_, rfl⟩
      obtain ⟨m, hm⟩ : ∃ m, lx.length = m := ⟨_, rfl⟩
      have hm8 : m ≤ 8 := by rw [← hm, ← hlx, List.length_take]; omega
      have ck := fun (A : Option Addr) (c : Nat) W => check_v A m c lx hm (by omega) W
      have cg := fun (A : Option Addr) (c : Nat) W => right_v A m c lx hm (by omega) W
      have co := fun (W : World) (h : Below w.heap.size w W) => own_a x ((hx.keep h).more h.size) hlx hm
      have ce := fun (y : Option Addr) (k : Nat) (z : Option Addr) (j : Nat) (W : World) (hR : Reads W W.heap.size 1 y m (ids lx)) (hR2 : Reads W W.heap.size 1 z m (ids lx)) => equal_v y m k lx z m j lx W hR hR2 (by omega) (by omega)
      have ebb : (lx == lx) = true := by simp
      rw [ebb] at ce
      obtain ⟨xA, xn, xc, xl⟩ := x
      have HRR := Lib.hid hR
      have HN := Lib.hid hn
      have t6 : ((k : Int) == 6) = false := by simp; omega
      have key := right_ways lx
      clear ebb hlx hR hx g hm
      rcases key with ⟨k1, k2⟩ | ⟨k1, k2⟩
      all_goals
        rw [k1] at cg
        rw [k2] at ck
        clear k1 k2
        go_wp2_with (first
          | (go_at_call 10; ((with_reducible refine (co _ hB).mono ?_); rintro e w2 ⟨A7, k7, rfl, ho7, hb7⟩; have HV := Lib.hid (Reads.of_own ho7); have hB := hB.trans (hb7.mono hB.size); have hv := Below.refl w2.heap.size w2; clear ho7 hb7))
          | (go_at_call 12; ((with_reducible refine (cg _ _ _).mono ?_); rintro e w3 ⟨rfl, rfl⟩))
          | (go_at_call 18; ((with_reducible refine (ck _ _ _).mono ?_); rintro e w4 ⟨rfl, rfl⟩))
          | fail)
        clear ck cg
        go_hide hQ
        go_loopw [49] (fun i wr => ∃ k2 : Nat, k2 ≤ n ∧ i = .int .i64 k2 ∧ Below w.heap.size w wr ∧ Below w2.heap.size w2 wr)
          (fun i _ => n - (intOf i).toNat)
        case atStart => exact ⟨0, Nat.zero_le _, rfl, hB, hv⟩
        case round =>
          clear hB hv
          obtain ⟨k2, hk2, rfl, hB, hv⟩ := hrel
          by_cases hlt2 : k2 < n
          · obtain ⟨y, p', off', -, hpp, hbl2, g2, hy⟩ := nest_at HRR.out hlt2
            simp only [Option.some.injEq, Addr.mk.injEq, and_true] at hpp
            obtain ⟨rfl, rfl⟩ := hpp
            have g20 := cell_below' hB g2 hbl2
            obtain ⟨ly, hly⟩ : ∃ ly, y.l.take 8 = ly := ⟨_, rfl⟩
            obtain ⟨m2, hm2⟩ : ∃ m2, ly.length = m2 := ⟨_, rfl⟩
            have hm28 : m2 ≤ 8 := by rw [← hm2, ← hly, List.length_take]; omega
            have cy := fun (W : World) (h : Below w.heap.size w W) => own_a y ((hy.keep h).more h.size) hly hm2
            have d1 := fun (y : Option Addr) (k : Nat) (z : Option Addr) (j : Nat) (W : World) (hR : Reads W W.heap.size 1 y m (ids lx)) (hR2 : Reads W W.heap.size 1 z m2 (ids ly)) => compare_v y m k lx z m2 j ly W hR hR2 (by omega) (by omega)
            have d2 := fun (y : Option Addr) (k : Nat) (z : Option Addr) (j : Nat) (W : World) (hR : Reads W W.heap.size 1 y m (ids lx)) (hR2 : Reads W W.heap.size 1 z m2 (ids ly)) => rcompare_v y m k lx z m2 j ly W hR hR2 (by omega) (by omega)
            have d3 := fun (y : Option Addr) (k : Nat) (z : Option Addr) (j : Nat) (W : World) (hR : Reads W W.heap.size 1 y m (ids lx)) (hR2 : Reads W W.heap.size 1 z m2 (ids ly)) => same_v y m k lx z m2 j ly W hR hR2 (by omega) (by omega)
            have d4 := fun (y : Option Addr) (k : Nat) (z : Option Addr) (j : Nat) (W : World) (hR : Reads W W.heap.size 1 y m (ids lx)) (hR2 : Reads W W.heap.size 1 z m2 (ids ly)) => rsame_v y m k lx z m2 j ly W hR hR2 (by omega) (by omega)
            generalize cmpV lx ly = z1 at d1 d2
            generalize (lx == ly) = z2 at d3 d4
            obtain ⟨yA, yn, yc, yl⟩ := y
            clear hly hy g2 hm2
            have hx1 : (z1 != z1) = false := by simp
            have hx2 : (z2 != z2) = false := by simp
            cases ht : decide ((k2 : Int) < 6)
            all_goals
              go_wp2_with (first
                | (go_at_call 10; ((with_reducible refine (cy _ hB).mono ?_); rintro e w5 ⟨A8, k8, rfl, ho8, hb8⟩; have HY := Lib.hid (Reads.of_own ho8); have hB := hB.trans (hb8.mono hB.size); have hv := hv.trans (hb8.mono hv.size); clear ho8 hb8))
                | (go_at_call 26; ((with_reducible refine (d1 _ _ _ _ _ ((HV.out.below hv).more hv.size) HY.out).mono ?_); rintro e w6 ⟨rfl, hb9⟩; have hB := hB.trans (hb9.mono hB.size); have hv := hv.trans (hb9.mono hv.size); clear hb9))
                | (go_at_call 27; ((with_reducible refine (d2 _ _ _ _ _ ((HV.out.below hv).more hv.size) HY.out).mono ?_); rintro e w6 ⟨rfl, hb9⟩; have hB := hB.trans (hb9.mono hB.size); have hv := hv.trans (hb9.mono hv.size); clear hb9))
                | (go_at_call 17; ((with_reducible refine (d3 _ _ _ _ _ ((HV.out.below hv).more hv.size) HY.out).mono ?_); rintro e w6 ⟨rfl, hb9⟩; have hB := hB.trans (hb9.mono hB.size); have hv := hv.trans (hb9.mono hv.size); clear hb9))
                | (go_at_call 28; ((with_reducible refine (d4 _ _ _ _ _ ((HV.out.below hv).more hv.size) HY.out).mono ?_); rintro e w6 ⟨rfl, hb9⟩; have hB := hB.trans (hb9.mono hB.size); have hv := hv.trans (hb9.mono hv.size); clear hb9))
                | fail)
              go_roundw
              case rel => exact ⟨k2 + 1, by omega, by go_num, hB, hv⟩
              case measure => simp [intOf]; omega
          · go_wp2_with fail
            subst hQ
            go_wp2_with (first
              | (go_at_call 10; ((with_reducible refine (co _ hB).mono ?_); rintro e w5 ⟨A8, k8, rfl, ho8, hb8⟩; have HY := Lib.hid (Reads.of_own ho8); have hB := hB.trans (hb8.mono hB.size); have hv := hv.trans (hb8.mono hv.size); clear ho8 hb8))
              | (go_at_call 16; ((with_reducible refine (ce _ _ _ _ _ ((HV.out.below hv).more hv.size) HY.out).mono ?_); rintro e w6 ⟨rfl, hb9⟩; have hB := hB.trans (hb9.mono hB.size); have hv := hv.trans (hb9.mono hv.size); clear hb9))
              | fail)
            go_roundw
            case rel => exact ⟨k + 1, by omega, by go_num, hB⟩
            case measure => simp [intOf]; omega
    case inr.inl =>
      obtain ⟨rfl, hlt⟩ := hlt
      obtain ⟨x, p, off, -, rfl, hbl, g, hx⟩ := nest_at hR hlt
      have g10 := cell_below' hB g hbl
      obtain ⟨xA, xn, xc, xl⟩ := x
      clear hR hx g
      go_wp2_with fail
      clear hn
      go_loopw [87] (fun i wr => ∃ k : Nat, k ≤ n2 ∧ i = .int .i64 k ∧ Below w.heap.size w wr)
        (fun i _ => n2 - (intOf i).toNat)
      case atStart => exact ⟨0, Nat.zero_le _, rfl, hB⟩
      case round =>
        clear hB
        obtain ⟨k, hk, rfl, hB⟩ := hrel
        rcases (show k = n2 ∨ (k = 8 ∧ k < n2) ∨ (k ≠ 8 ∧ k < n2) from by omega) with hkn | hlt | ⟨h6, hlt⟩
        case inr.inr =>
          have hl2 : l2.length = n2 := by have := hR2.1; rw [List.length_map] at this; omega
          have e1 := List.getElem?_eq_getElem (l := l2) (i := k) (by omega)
          generalize l2[k]'(by omega) = z at e1
          obtain ⟨p, off, rfl, hbl, g⟩ := row_cell hR2 (k := k) (v := .int .i64 z) (by rw [List.getElem?_map, e1]; rfl)
          have g10 := cell_below' hB g hbl
          have t6 : ((k : Int) == 8) = false := by simp; omega
          have HRR := Lib.hid hR2
          clear hR2 e1 g hl2
          rcases zero_ways2 z with ⟨z1, cz⟩ | ⟨z1, z2, cz⟩ | ⟨m, rfl, z2, cz⟩
          · have t7 : decide (0 ≤ z) = false := decide_eq_false (by omega)
            have ce := fun (y : Option Addr) (k : Nat) (W : World) (hR : Reads W W.heap.size 1 y 0 (ids (zerosL 0))) => equal_v y 0 k [] none 0 0 [] W hR Reads.none_ (by omega) (by omega)
            rw [show (([] : List Int) == []) = true from rfl] at ce
            go_wp2_with (first
              | (go_at_call 20; ((with_reducible refine (cz _).mono ?_); rintro e w2 ⟨A7, k7, rfl, hr7, hb7⟩; have hB := hB.trans (hb7.mono hB.size); clear hb7))
              | (go_at_call 16; ((with_reducible refine (ce _ _ _ hr7).mono ?_); rintro e w6 ⟨rfl, hb9⟩; have hB := hB.trans (hb9.mono hB.size); clear hb9))
              | fail)
            go_roundw
            case rel => exact ⟨k + 1, by omega, by go_num, hB⟩
            case measure => simp [intOf]; omega
          · have t7 : decide (0 ≤ z) = true := decide_eq_true (by omega)
            have t8 : decide (z ≤ 4) = false := decide_eq_false (by omega)
            have ce := fun (y : Option Addr) (k : Nat) (W : World) (hR : Reads W W.heap.size 1 y 0 (ids (zerosL 0))) => equal_v y 0 k [] none 0 0 [] W hR Reads.none_ (by omega) (by omega)
            rw [show (([] : List Int) == []) = true from rfl] at ce
            go_wp2_with (first
              | (go_at_call 20; ((with_reducible refine (cz _).mono ?_); rintro e w2 ⟨A7, k7, rfl, hr7, hb7⟩; have hB := hB.trans (hb7.mono hB.size); clear hb7))
              | (go_at_call 16; ((with_reducible refine (ce _ _ _ hr7).mono ?_); rintro e w6 ⟨rfl, hb9⟩; have hB := hB.trans (hb9.mono hB.size); clear hb9))
              | fail)
            go_roundw
            case rel => exact ⟨k + 1, by omega, by go_num, hB⟩
            case measure => simp [intOf]; omega
          · have t8 : decide ((m : Int) ≤ 4) = true := decide_eq_true (by omega)
            have t9 : decide (0 ≤ (m : Int)) = true := decide_eq_true (by omega)
            have cr := fun W => rzero_m m z2 W
            have ce := fun (y : Option Addr) (k : Nat) (z : Option Addr) (j : Nat) (W : World) (hR : Reads W W.heap.size 1 y m (ids (zerosL m))) (hR2 : Reads W W.heap.size 1 z m (ids (zerosL m))) => equal_v y m k (zerosL m) z m j (zerosL m) W hR hR2 (by omega) (by omega)
            have ebb : (zerosL m == zerosL m) = true := by simp
            rw [ebb] at ce
            clear ebb
            go_wp2_with (first
              | (go_at_call 20; ((with_reducible refine (cz _).mono ?_); rintro e w2 ⟨A7, k7, rfl, hr7, hb7⟩; have hB := hB.trans (hb7.mono hB.size); clear hb7))
              | (go_at_call 29; ((with_reducible refine (cr _).mono ?_); rintro e w3 ⟨A8, k8, rfl, ho8, hb8⟩; have hB := hB.trans (hb8.mono hB.size); have hr8 := Reads.of_own ho8; have hr7 := (hr7.below hb8).more hb8.size; clear hb8 ho8))
              | (go_at_call 16; ((with_reducible refine (ce _ _ _ _ _ hr7 hr8).mono ?_); rintro e w6 ⟨rfl, hb9⟩; have hB := hB.trans (hb9.mono hB.size); clear hb9))
              | fail)
            go_roundw
            case rel => exact ⟨k + 1, by omega, by go_num, hB⟩
            case measure => simp [intOf]; omega
        case inr.inl =>
          obtain ⟨rfl, hlt⟩ := hlt
          have hl2 : l2.length = n2 := by have := hR2.1; rw [List.length_map] at this; omega
          have e1 := List.getElem?_eq_getElem (l := l2) (i := 8) (by omega)
          generalize l2[8]'(by omega) = z at e1
          obtain ⟨p, off, rfl, hbl, g⟩ := row_cell hR2 (k := 8) (v := .int .i64 z) (by rw [List.getElem?_map, e1]; rfl)
          have g10 := cell_below' hB g hbl
          clear hR2 e1 g hl2
          go_wp2_with fail
          try rw [Exit.noGoto_ret]
          go_ret
          exact ⟨rfl, hB⟩
        case inl =>
          subst hkn
          clear hR2
          go_wp2_with fail
          try rw [Exit.noGoto_ret]
          go_ret
          exact ⟨rfl, hB⟩
    case inl =>
      subst hkn
      clear hR
      go_wp2_with fail
      clear hn
      go_loopw [87] (fun i wr => ∃ k : Nat, k ≤ n2 ∧ i = .int .i64 k ∧ Below w.heap.size w wr)
        (fun i _ => n2 - (intOf i).toNat)
      case atStart => exact ⟨0, Nat.zero_le _, rfl, hB⟩
      case round =>
        clear hB
        obtain ⟨k, hk, rfl, hB⟩ := hrel
        rcases (show k = n2 ∨ (k = 8 ∧ k < n2) ∨ (k ≠ 8 ∧ k < n2) from by omega) with hkn | hlt | ⟨h6, hlt⟩
        case inr.inr =>
          have hl2 : l2.length = n2 := by have := hR2.1; rw [List.length_map] at this; omega
          have e1 := List.getElem?_eq_getElem (l := l2) (i := k) (by omega)
          generalize l2[k]'(by omega) = z at e1
          obtain ⟨p, off, rfl, hbl, g⟩ := row_cell hR2 (k := k) (v := .int .i64 z) (by rw [List.getElem?_map, e1]; rfl)
          have g10 := cell_below' hB g hbl
          have t6 : ((k : Int) == 8) = false := by simp; omega
          have HRR := Lib.hid hR2
          clear hR2 e1 g hl2
          rcases zero_ways2 z with ⟨z1, cz⟩ | ⟨z1, z2, cz⟩ | ⟨m, rfl, z2, cz⟩
          · have t7 : decide (0 ≤ z) = false := decide_eq_false (by omega)
            have ce := fun (y : Option Addr) (k : Nat) (W : World) (hR : Reads W W.heap.size 1 y 0 (ids (zerosL 0))) => equal_v y 0 k [] none 0 0 [] W hR Reads.none_ (by omega) (by omega)
            rw [show (([] : List Int) == []) = true from rfl] at ce
            go_wp2_with (first
              | (go_at_call 20; ((with_reducible refine (cz _).mono ?_); rintro e w2 ⟨A7, k7, rfl, hr7, hb7⟩; have hB := hB.trans (hb7.mono hB.size); clear hb7))
              | (go_at_call 16; ((with_reducible refine (ce _ _ _ hr7).mono ?_); rintro e w6 ⟨rfl, hb9⟩; have hB := hB.trans (hb9.mono hB.size); clear hb9))
              | fail)
            go_roundw
            case rel => exact ⟨k + 1, by omega, by go_num, hB⟩
            case measure => simp [intOf]; omega
          · have t7 : decide (0 ≤ z) = true := decide_eq_true (by omega)
            have t8 : decide (z ≤ 4) = false := decide_eq_false (by omega)
            have ce := fun (y : Option Addr) (k : Nat) (W : World) (hR : Reads W W.heap.size 1 y 0 (ids (zerosL 0))) => equal_v y 0 k [] none 0 0 [] W hR Reads.none_ (by omega) (by omega)
            rw [show (([] : List Int) == []) = true from rfl] at ce
            go_wp2_with (first
              | (go_at_call 20; ((with_reducible refine (cz _).mono ?_); rintro e w2 ⟨A7, k7, rfl, hr7, hb7⟩; have hB := hB.trans (hb7.mono hB.size); clear hb7))
              | (go_at_call 16; ((with_reducible refine (ce _ _ _ hr7).mono ?_); rintro e w6 ⟨rfl, hb9⟩; have hB := hB.trans (hb9.mono hB.size); clear hb9))
              | fail)
            go_roundw
            case rel => exact ⟨k + 1, by omega, by go_num, hB⟩
            case measure => simp [intOf]; omega
          · have t8 : decide ((m : Int) ≤ 4) = true := decide_eq_true (by omega)
            have t9 : decide (0 ≤ (m : Int)) = true := decide_eq_true (by omega)
            have cr := fun W => rzero_m m z2 W
            have ce := fun (y : Option Addr) (k : Nat) (z : Option Addr) (j : Nat) (W : World) (hR : Reads W W.heap.size 1 y m (ids (zerosL m))) (hR2 : Reads W W.heap.size 1 z m (ids (zerosL m))) => equal_v y m k (zerosL m) z m j (zerosL m) W hR hR2 (by omega) (by omega)
            have ebb : (zerosL m == zerosL m) = true := by simp
            rw [ebb] at ce
            clear ebb
            go_wp2_with (first
              | (go_at_call 20; ((with_reducible refine (cz _).mono ?_); rintro e w2 ⟨A7, k7, rfl, hr7, hb7⟩; have hB := hB.trans (hb7.mono hB.size); clear hb7))
              | (go_at_call 29; ((with_reducible refine (cr _).mono ?_); rintro e w3 ⟨A8, k8, rfl, ho8, hb8⟩; have hB := hB.trans (hb8.mono hB.size); have hr8 := Reads.of_own ho8; have hr7 := (hr7.below hb8).more hb8.size; clear hb8 ho8))
              | (go_at_call 16; ((with_reducible refine (ce _ _ _ _ _ hr7 hr8).mono ?_); rintro e w6 ⟨rfl, hb9⟩; have hB := hB.trans (hb9.mono hB.size); clear hb9))
              | fail)
            go_roundw
            case rel => exact ⟨k + 1, by omega, by go_num, hB⟩
            case measure => simp [intOf]; omega
        case inr.inl =>
          obtain ⟨rfl, hlt⟩ := hlt
          have hl2 : l2.length = n2 := by have := hR2.1; rw [List.length_map] at this; omega
          have e1 := List.getElem?_eq_getElem (l := l2) (i := 8) (by omega)
          generalize l2[8]'(by omega) = z at e1
          obtain ⟨p, off, rfl, hbl, g⟩ := row_cell hR2 (k := 8) (v := .int .i64 z) (by rw [List.getElem?_map, e1]; rfl)
          have g10 := cell_below' hB g hbl
          clear hR2 e1 g hl2
          go_wp2_with fail
          try rw [Exit.noGoto_ret]
          go_ret
          exact ⟨rfl, hB⟩
        case inl =>
          subst hkn
          clear hR2
          go_wp2_with fail
          try rw [Exit.noGoto_ret]
          go_ret
          exact ⟨rfl, hB⟩
theorem may_row (A : Option Addr) (n c : Nat) (F : List RowA) (hn : n ≤ maxLen) (A2 : Option Addr) (n2 c2 : Nat) (l2 : List Int) (hc2 : n2 ≤ c2) (hn2 : c2 * 8 ≤ 140737488351232) (hw : ∀ x ∈ l2, (Lit.int .i64 x).wf = true) (w : World) (hE : Env w)
    (hR : RV .u64 w w.heap.size A n F) (hR2 : Reads w w.heap.size 1 A2 n2 (l2.map (Value.int .i64))) :
    Calls Tryd.prog 7 #[.slice A n c, .slice A2 n2 c2] w fun e w' => e = .returned (.bool true) ∧ Below w.heap.size w w' :=
  may_law A n c F A2 n2 c2 l2 w hE hn (by omega) hR hR2
end Go.Proofs.YtcfpnnkohjochaaDoor
