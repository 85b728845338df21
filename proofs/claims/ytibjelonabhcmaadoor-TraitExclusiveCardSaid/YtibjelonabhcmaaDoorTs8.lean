/- What is proved: the law's TraitPolicies returns true. -/
import Derived.Test.YtibjelonabhcmaaDoorTs7
namespace Go.Proofs.YtibjelonabhcmaaDoor
open Go.RowKit
set_option linter.unusedVariables false
set_option linter.unusedSimpArgs false
set_option maxRecDepth 100000 in
set_option maxHeartbeats 8000000 in
theorem polic_law (A : Option Addr) (n c : Nat) (l : List Rel) (A2 : Option Addr) (n2 c2 : Nat) (l2 : List WInt) (idx : Int) (w : World) (hE : Env w) (hR : Reads w w.heap.size 6 A n (rels l)) (hnc : n ≤ c) (hn : c ≤ 281474976710656)
    (hR2 : Reads w w.heap.size 1 A2 n2 (ids (vals l2))) (hnc2 : n2 ≤ c2) (hn2 : c2 ≤ 281474976710656) :
    Calls Tryd.prog 4 #[.slice A n c, .slice A2 n2 c2, .int .i64 idx] w fun e w' => e = .returned (.bool true) ∧ Below w.heap.size w w' := by
  obtain ⟨L, hL⟩ : ∃ L, l.take 201 = L := ⟨_, rfl⟩
  obtain ⟨m, hm⟩ : ∃ m, L.length = m := ⟨_, rfl⟩
  have hm2 : m ≤ 201 := by rw [← hm, ← hL, List.length_take]; omega
  obtain ⟨H, hH⟩ : ∃ H, l2.take 14 = H := ⟨_, rfl⟩
  have hq : ∃ q, q ≤ 14 ∧ H.length = q ∧ q ≤ n2 ∧ ((14 < n2 ∧ q = 14) ∨ (n2 ≤ 14 ∧ q = n2)) := by
    have hl2 : l2.length = n2 := by have := hR2.1; rw [ids_len] at this; unfold vals at this; rw [List.length_map] at this; omega
    refine ⟨H.length, ?_, rfl, ?_, ?_⟩
    all_goals (rw [← hH, List.length_take]; omega)
  obtain ⟨q, hq14, hHq, hqn, hq2⟩ := hq
  have hRH : Reads w w.heap.size 1 A2 q (ids (vals H)) := by
    have h1 : vals H = (vals l2).take q := by
      have hl2 : l2.length = n2 := by have := hR2.1; rw [ids_len] at this; unfold vals at this; rw [List.length_map] at this; omega
      rw [← hH]
      unfold vals
      rw [← List.map_take]
      congr 1
      rcases hq2 with ⟨_, rfl⟩ | ⟨_, rfl⟩
      · rfl
      · rw [List.take_of_length_le (by omega), List.take_of_length_le (by omega)]
    rw [h1]; exact hR2.pre1 hqn
  have hB := Below.refl w.heap.size w
  have cw := fun (W : World) (h : Below w.heap.size w W) => wakes_any W (hE.below h)
  have cf := fun (W : World) (h : Below w.heap.size w W) => few_c (w := W) (c := c) ((hR.below h).more h.size) hnc hn hL hm
  have ch := fun (W : World) (h : Below w.heap.size w W) => held_c (w := W) (c := c2) ((hRH.below h).more h.size) hq14
  have cc := fun (W : World) (h : Below w.heap.size w W) (A : Option Addr) (c : Nat) (hR : Reads W W.heap.size 6 A m (rels L)) => check_any A m c L W (hE.below h) hR (by omega)
  have ct := fun (W : World) (A : Option Addr) (c : Nat) (hR : Reads W W.heap.size 1 A q (ids (vals H))) => tcheck_any A q c (vals H) W hR (vals_word H) (by omega)
  have hen := Lib.hid (fun (W : World) (h : Below w.heap.size w W) => hE.below h)
  have key : chkE L = 230 ∨ (chkE L = 0 ∧ tyE (vals H) = 130) ∨ (chkE L = 0 ∧ tyR (vals H) = true ∧ tyE (vals H) = 0) := by
    unfold chkE tyE
    cases right L <;> cases tyR (vals H) <;> simp
  clear hE hR hR2 hRH hL hH
  have hqc : q ≤ c2 := by omega
  rcases key with k1 | ⟨k1, k2⟩ | ⟨k1, k2, k3⟩
  · rw [k1] at cc
    clear k1 hen ct
    rcases hq2 with ⟨q1, rfl⟩ | ⟨q1, rfl⟩
    all_goals
      go_enter Tryd.func4, Tryd.ntmps4
      go_wp2_with (first
        | (go_at_call 8; ((with_reducible refine (cw _ hB).mono ?_); rintro e w1 ⟨rfl, hb1⟩; have hB := hB.trans (hb1.mono hB.size)))
        | (go_at_call 9; ((with_reducible refine (cf _ hB).mono ?_); rintro e w2 ⟨A2, c2, rfl, HR, hc2, hb2⟩; have hB := hB.trans (hb2.mono hB.size); have h2 := Below.refl w2.heap.size w2))
        | (go_at_call 17; ((with_reducible refine (ch _ hB).mono ?_); rintro e w3 ⟨A3, c3, rfl, HH, hb3⟩; have hB := hB.trans (hb3.mono hB.size); have h2 := h2.trans (hb3.mono h2.size)))
        | (go_at_call 10; ((with_reducible refine (cc _ hB _ _ ((HR.below h2).more h2.size)).mono ?_); rintro e w4 ⟨rfl, hb4⟩; have hB := hB.trans (hb4.mono hB.size)))
        | fail)
      go_ret
      exact ⟨rfl, hB⟩
  · rw [k1] at cc
    rw [k2] at ct
    clear k1 k2 hen
    rcases hq2 with ⟨q1, rfl⟩ | ⟨q1, rfl⟩
    all_goals
      go_enter Tryd.func4, Tryd.ntmps4
      go_wp2_with (first
        | (go_at_call 8; ((with_reducible refine (cw _ hB).mono ?_); rintro e w1 ⟨rfl, hb1⟩; have hB := hB.trans (hb1.mono hB.size)))
        | (go_at_call 9; ((with_reducible refine (cf _ hB).mono ?_); rintro e w2 ⟨A2, c2, rfl, HR, hc2, hb2⟩; have hB := hB.trans (hb2.mono hB.size); have h2 := Below.refl w2.heap.size w2))
        | (go_at_call 17; ((with_reducible refine (ch _ hB).mono ?_); rintro e w3 ⟨A3, c3, rfl, HH, hb3⟩; have hB := hB.trans (hb3.mono hB.size); have h2 := h2.trans (hb3.mono h2.size)))
        | (go_at_call 10; ((with_reducible refine (cc _ hB _ _ ((HR.below h2).more h2.size)).mono ?_); rintro e w4 ⟨rfl, hb4⟩; have hB := hB.trans (hb4.mono hB.size)))
        | (go_at_call 18; ((with_reducible refine (ct _ _ _ ((HH.below hb4).more hb4.size)).mono ?_); rintro e w5 ⟨rfl, hb5⟩; have hB := hB.trans (hb5.mono hB.size)))
        | fail)
      go_ret
      exact ⟨rfl, hB⟩
  · obtain ⟨ys, hy⟩ : ∃ ys, sel H (pq fun a b => a == idx || b == idx) = ys := ⟨_, rfl⟩
    obtain ⟨mm, hmm⟩ : ∃ mm, ys.length = mm := ⟨_, rfl⟩
    have hmm2 : mm ≤ 12 := by rw [← hmm, ← hy]; exact sel_len _ _
    have cm := fun (W : World) (A : Option Addr) (c : Nat) (hR : Reads W W.heap.size 1 A q (ids (vals H))) => men_c (w := W) (A := A) (c := c) (r := idx) hR hq14 hy hmm
    have pcs := fun (x : WInt) (hx : x ∈ H) => pol_cases L H idx x k1 k2 hx
    rw [hy] at pcs
    rw [k1] at cc
    rw [k3] at ct
    have hpcs := Lib.hid pcs
    have hHq2 := Lib.hid hHq
    clear k1 k2 k3 pcs hHq hy hmm hm
    rcases hq2 with ⟨q1, hq9⟩ | ⟨q1, hq9⟩
    · subst hq9
      go_enter Tryd.func4, Tryd.ntmps4
      go_wp2_with (first
        | (go_at_call 8; ((with_reducible refine (cw _ hB).mono ?_); rintro e w1 ⟨rfl, hb1⟩; have hB := hB.trans (hb1.mono hB.size)))
        | (go_at_call 9; ((with_reducible refine (cf _ hB).mono ?_); rintro e w2 ⟨A2, c2, rfl, HR, hc2, hb2⟩; have hB := hB.trans (hb2.mono hB.size); have h2 := Below.refl w2.heap.size w2))
        | (go_at_call 17; ((with_reducible refine (ch _ hB).mono ?_); rintro e w3 ⟨A3, c3, rfl, HH, hb3⟩; have hB := hB.trans (hb3.mono hB.size); have h2 := h2.trans (hb3.mono h2.size); have h3 := Below.refl w3.heap.size w3))
        | (go_at_call 10; ((with_reducible refine (cc _ hB _ _ ((HR.below h2).more h2.size)).mono ?_); rintro e w4 ⟨rfl, hb4⟩; have hB := hB.trans (hb4.mono hB.size); have h2 := h2.trans (hb4.mono h2.size); have h3 := h3.trans (hb4.mono h3.size)))
        | (go_at_call 18; ((with_reducible refine (ct _ _ _ ((HH.below h3).more h3.size)).mono ?_); rintro e w5 ⟨rfl, hb5⟩; have hB := hB.trans (hb5.mono hB.size); have h2 := h2.trans (hb5.mono h2.size); have h3 := h3.trans (hb5.mono h3.size)))
        | (go_at_call 19; ((with_reducible refine (cm _ _ _ ((HH.below h3).more h3.size)).mono ?_); rintro e w6 ⟨A6, c6, rfl, HM6, hb6⟩; have hB := hB.trans (hb6.mono hB.size); have h2 := h2.trans (hb6.mono h2.size); have h3 := h3.trans (hb6.mono h3.size); have HR6 := (HR.below h2).more h2.size; have HH6 := (HH.below h3).more h3.size))
        | fail)
      clear cw cf ch cc ct cm HR HH h2 h3
      go_loopw [38] (fun i wr => ∃ k : Nat, k ≤ 14 ∧ i = .int .i64 k ∧ Below w.heap.size w wr ∧ Below w6.heap.size w6 wr)
        (fun i _ => 14 - (intOf i).toNat)
      case atStart => exact ⟨0, Nat.zero_le _, rfl, hB, Below.refl _ _⟩
      case round =>
        clear hB
        obtain ⟨k, hk, rfl, hB, hb⟩ := hrel
        by_cases hlt : k < 14
        · have hl := hHq2.out
          have e1 := List.getElem?_eq_getElem (l := H) (i := k) (by omega)
          generalize H[k]'(by omega) = x at e1
          obtain ⟨b, off, rfl, hbl, g⟩ := ids_cell HH6 (k := k) (x := x.1) (by unfold vals; rw [List.getElem?_map, e1]; rfl)
          have g1 := cell_below' hb g hbl
          have hE := hen.out wr hB
          have cR := (HR6.below hb).more hb.size
          have ck := (HM6.below hb).more hb.size
          have i1 : (k : Int) < (14 : Int) := by omega
          have hx := hpcs.out x (List.mem_of_getElem? e1)
          have HR66 := Lib.hid HR6
          have HM66 := Lib.hid HM6
          clear HR6 HM6 HH6 g e1 hl hbl
          have hen' := hen.out
          have hb0 := Below.refl wr.heap.size wr
          have cd := fun (W : World) (h : Below wr.heap.size wr W) => width_any A2 m c2 L 0 x.1 W (hE.below h) ((cR.below h).more h.size) (by omega) (by omega) x.2
          have cx := fun (W : World) (h : Below wr.heap.size wr W) => contains_id A6 mm c6 (vals ys) x.1 W ((ck.below h).more h.size) (by omega)
          obtain ⟨x, hW⟩ := x
          dsimp only at hx cd cx g1
          rcases hx with ⟨y, k1, k2, k3, k4, k5, k6, k7⟩ | ⟨k1, k2⟩
          · have cp := policy_yes A2 m c2 L x idx y wr hE cR (by omega) hW k1 k2 k4 k5 k3
            have hp := polOf_bd idx (pa x) (pb x) y.t y.r
            rw [k6] at cx
            rw [k7] at cd
            generalize polOf idx (pa x) (pb x) y.t y.r = pv at cp hp
            have p1 : decide (pv < 0) = false := decide_eq_false (by omega)
            have p2 : decide (2 < pv) = false := decide_eq_false (by omega)
            clear hE cR ck k1 k2 k3 k4 k5 k6 k7 hen'
            go_wp2_with (first
              | (go_at_call 20; ((with_reducible refine cp.mono ?_); rintro e w7 ⟨rfl, hb7⟩; have hb0 := hb0.trans (hb7.mono hb0.size)))
              | (go_at_call 21; ((refine (cd _ hb0).mono ?_); rintro e w8 ⟨rfl, hb8⟩; have hb0 := hb0.trans (hb8.mono hb0.size)))
              | (go_at_call 22; ((with_reducible refine (cx _ hb0).mono ?_); rintro e w9 ⟨rfl, rfl⟩))
              | fail)
            go_roundw
            case rel => exact ⟨k + 1, by omega, by go_num, hB.trans (hb0.mono hB.size), hb.trans (hb0.mono hb.size)⟩
            case measure => simp [intOf]; omega
          · have cp := policy_no A2 m c2 L x idx wr hE cR (by omega) hW k1
            rcases k2 with k2 | ⟨k2, k3⟩
            · rw [k2] at cx
              generalize (widthR L 0 x).1 = wn at cd
              generalize (widthR L 0 x).2 = we at cd
              clear hE cR ck k1 k2 hen'
              go_wp2_with (first
                | (go_at_call 20; ((with_reducible refine cp.mono ?_); rintro e w7 ⟨rfl, hb7⟩; have hb0 := hb0.trans (hb7.mono hb0.size)))
                | (go_at_call 21; ((refine (cd _ hb0).mono ?_); rintro e w8 ⟨rfl, hb8⟩; have hb0 := hb0.trans (hb8.mono hb0.size)))
                | (go_at_call 22; ((with_reducible refine (cx _ hb0).mono ?_); rintro e w9 ⟨rfl, rfl⟩))
                | fail)
              go_roundw
              case rel => exact ⟨k + 1, by omega, by go_num, hB.trans (hb0.mono hB.size), hb.trans (hb0.mono hb.size)⟩
              case measure => simp [intOf]; omega
            · rw [k2] at cx
              rw [k3] at cd
              clear hE cR ck k1 k2 k3 hen'
              go_wp2_with (first
                | (go_at_call 20; ((with_reducible refine cp.mono ?_); rintro e w7 ⟨rfl, hb7⟩; have hb0 := hb0.trans (hb7.mono hb0.size)))
                | (go_at_call 21; ((refine (cd _ hb0).mono ?_); rintro e w8 ⟨rfl, hb8⟩; have hb0 := hb0.trans (hb8.mono hb0.size)))
                | (go_at_call 22; ((with_reducible refine (cx _ hb0).mono ?_); rintro e w9 ⟨rfl, rfl⟩))
                | fail)
              go_roundw
              case rel => exact ⟨k + 1, by omega, by go_num, hB.trans (hb0.mono hB.size), hb.trans (hb0.mono hb.size)⟩
              case measure => simp [intOf]; omega
        · have hkm : k = 14 := by omega
          subst hkm
          clear HR6 HM6 HH6 hlt
          go_wp2_with fail
          try rw [Exit.noGoto_ret]
          go_ret
          exact ⟨rfl, hB⟩
    · subst hq9
      go_enter Tryd.func4, Tryd.ntmps4
      go_wp2_with (first
        | (go_at_call 8; ((with_reducible refine (cw _ hB).mono ?_); rintro e w1 ⟨rfl, hb1⟩; have hB := hB.trans (hb1.mono hB.size)))
        | (go_at_call 9; ((with_reducible refine (cf _ hB).mono ?_); rintro e w2 ⟨A2, c2, rfl, HR, hc2, hb2⟩; have hB := hB.trans (hb2.mono hB.size); have h2 := Below.refl w2.heap.size w2))
        | (go_at_call 17; ((with_reducible refine (ch _ hB).mono ?_); rintro e w3 ⟨A3, c3, rfl, HH, hb3⟩; have hB := hB.trans (hb3.mono hB.size); have h2 := h2.trans (hb3.mono h2.size); have h3 := Below.refl w3.heap.size w3))
        | (go_at_call 10; ((with_reducible refine (cc _ hB _ _ ((HR.below h2).more h2.size)).mono ?_); rintro e w4 ⟨rfl, hb4⟩; have hB := hB.trans (hb4.mono hB.size); have h2 := h2.trans (hb4.mono h2.size); have h3 := h3.trans (hb4.mono h3.size)))
        | (go_at_call 18; ((with_reducible refine (ct _ _ _ ((HH.below h3).more h3.size)).mono ?_); rintro e w5 ⟨rfl, hb5⟩; have hB := hB.trans (hb5.mono hB.size); have h2 := h2.trans (hb5.mono h2.size); have h3 := h3.trans (hb5.mono h3.size)))
        | (go_at_call 19; ((with_reducible refine (cm _ _ _ ((HH.below h3).more h3.size)).mono ?_); rintro e w6 ⟨A6, c6, rfl, HM6, hb6⟩; have hB := hB.trans (hb6.mono hB.size); have h2 := h2.trans (hb6.mono h2.size); have h3 := h3.trans (hb6.mono h3.size); have HR6 := (HR.below h2).more h2.size; have HH6 := (HH.below h3).more h3.size))
        | fail)
      clear cw cf ch cc ct cm HR HH h2 h3
      go_loopw [38] (fun i wr => ∃ k : Nat, k ≤ q ∧ i = .int .i64 k ∧ Below w.heap.size w wr ∧ Below w6.heap.size w6 wr)
        (fun i _ => q - (intOf i).toNat)
      case atStart => exact ⟨0, Nat.zero_le _, rfl, hB, Below.refl _ _⟩
      case round =>
        clear hB
        obtain ⟨k, hk, rfl, hB, hb⟩ := hrel
        by_cases hlt : k < q
        · have hl := hHq2.out
          have e1 := List.getElem?_eq_getElem (l := H) (i := k) (by omega)
          generalize H[k]'(by omega) = x at e1
          obtain ⟨b, off, rfl, hbl, g⟩ := ids_cell HH6 (k := k) (x := x.1) (by unfold vals; rw [List.getElem?_map, e1]; rfl)
          have g1 := cell_below' hb g hbl
          have hE := hen.out wr hB
          have cR := (HR6.below hb).more hb.size
          have ck := (HM6.below hb).more hb.size
          have i1 : (k : Int) < (q : Int) := by omega
          have hx := hpcs.out x (List.mem_of_getElem? e1)
          have HR66 := Lib.hid HR6
          have HM66 := Lib.hid HM6
          clear HR6 HM6 HH6 g e1 hl hbl
          have hen' := hen.out
          have hb0 := Below.refl wr.heap.size wr
          have cd := fun (W : World) (h : Below wr.heap.size wr W) => width_any A2 m c2 L 0 x.1 W (hE.below h) ((cR.below h).more h.size) (by omega) (by omega) x.2
          have cx := fun (W : World) (h : Below wr.heap.size wr W) => contains_id A6 mm c6 (vals ys) x.1 W ((ck.below h).more h.size) (by omega)
          obtain ⟨x, hW⟩ := x
          dsimp only at hx cd cx g1
          rcases hx with ⟨y, k1, k2, k3, k4, k5, k6, k7⟩ | ⟨k1, k2⟩
          · have cp := policy_yes A2 m c2 L x idx y wr hE cR (by omega) hW k1 k2 k4 k5 k3
            have hp := polOf_bd idx (pa x) (pb x) y.t y.r
            rw [k6] at cx
            rw [k7] at cd
            generalize polOf idx (pa x) (pb x) y.t y.r = pv at cp hp
            have p1 : decide (pv < 0) = false := decide_eq_false (by omega)
            have p2 : decide (2 < pv) = false := decide_eq_false (by omega)
            clear hE cR ck k1 k2 k3 k4 k5 k6 k7 hen'
            go_wp2_with (first
              | (go_at_call 20; ((with_reducible refine cp.mono ?_); rintro e w7 ⟨rfl, hb7⟩; have hb0 := hb0.trans (hb7.mono hb0.size)))
              | (go_at_call 21; ((refine (cd _ hb0).mono ?_); rintro e w8 ⟨rfl, hb8⟩; have hb0 := hb0.trans (hb8.mono hb0.size)))
              | (go_at_call 22; ((with_reducible refine (cx _ hb0).mono ?_); rintro e w9 ⟨rfl, rfl⟩))
              | fail)
            go_roundw
            case rel => exact ⟨k + 1, by omega, by go_num, hB.trans (hb0.mono hB.size), hb.trans (hb0.mono hb.size)⟩
            case measure => simp [intOf]; omega
          · have cp := policy_no A2 m c2 L x idx wr hE cR (by omega) hW k1
            rcases k2 with k2 | ⟨k2, k3⟩
            · rw [k2] at cx
              generalize (widthR L 0 x).1 = wn at cd
              generalize (widthR L 0 x).2 = we at cd
              clear hE cR ck k1 k2 hen'
              go_wp2_with (first
                | (go_at_call 20; ((with_reducible refine cp.mono ?_); rintro e w7 ⟨rfl, hb7⟩; have hb0 := hb0.trans (hb7.mono hb0.size)))
                | (go_at_call 21; ((refine (cd _ hb0).mono ?_); rintro e w8 ⟨rfl, hb8⟩; have hb0 := hb0.trans (hb8.mono hb0.size)))
                | (go_at_call 22; ((with_reducible refine (cx _ hb0).mono ?_); rintro e w9 ⟨rfl, rfl⟩))
                | fail)
              go_roundw
              case rel => exact ⟨k + 1, by omega, by go_num, hB.trans (hb0.mono hB.size), hb.trans (hb0.mono hb.size)⟩
              case measure => simp [intOf]; omega
            · rw [k2] at cx
              rw [k3] at cd
              clear hE cR ck k1 k2 k3 hen'
              go_wp2_with (first
                | (go_at_call 20; ((with_reducible refine cp.mono ?_); rintro e w7 ⟨rfl, hb7⟩; have hb0 := hb0.trans (hb7.mono hb0.size)))
                | (go_at_call 21; ((refine (cd _ hb0).mono ?_); rintro e w8 ⟨rfl, hb8⟩; have hb0 := hb0.trans (hb8.mono hb0.size)))
                | (go_at_call 22; ((with_reducible refine (cx _ hb0).mono ?_); rintro e w9 ⟨rfl, rfl⟩))
                | fail)
              go_roundw
              case rel => exact ⟨k + 1, by omega, by go_num, hB.trans (hb0.mono hB.size), hb.trans (hb0.mono hb.size)⟩
              case measure => simp [intOf]; omega
        · have hkm : k = q := by omega
          subst hkm
          clear HR6 HM6 HH6 hlt
          go_wp2_with fail
          try rw [Exit.noGoto_ret]
          go_ret
          exact ⟨rfl, hB⟩
theorem polic_row (A : Option Addr) (n c : Nat) (l : List Rel) (hnc : n ≤ c) (hn : c ≤ 281474976710656) {Q : Prop} (_ : Q)
    (A2 : Option Addr) (n2 c2 : Nat) (l2 : List Int) (hnc2 : n2 ≤ c2) (hn2 : c2 * 8 ≤ 140737488351232) (hw : ∀ x ∈ l2, (Lit.int .u64 x).wf = true) (idx : Int) {Q2 : Prop} (_ : Q2) (w : World) (hE : Env w)
    (hR : Reads w w.heap.size 6 A n (rels l)) (hR2 : Reads w w.heap.size 1 A2 n2 (l2.map (Value.int .u64))) :
    Calls Tryd.prog 4 #[.slice A n c, .slice A2 n2 c2, .int .i64 idx] w fun e w' => e = .returned (.bool true) ∧ Below w.heap.size w w' := by
  obtain ⟨H, rfl⟩ := wints l2 (fun x hx => word_wf (hw x hx))
  exact polic_law A n c l A2 n2 c2 H idx w hE hR hnc hn hR2 hnc2 (by omega)
end Go.Proofs.YtibjelonabhcmaaDoor
