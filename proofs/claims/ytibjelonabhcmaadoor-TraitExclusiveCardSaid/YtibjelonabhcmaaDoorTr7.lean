/- What is proved: the law's wakes holds. -/
import Derived.Test.YtibjelonabhcmaaDoorTr6
namespace Go.Proofs.YtibjelonabhcmaaDoor
open Go.RowKit
set_option linter.unusedVariables false
set_option linter.unusedSimpArgs false
theorem lp59 (w : World) : Calls Tryd.prog 37 #[.int .i64 5, .int .i64 9] w fun e w' => e = .returned (.int .u64 p59) ∧ w = w' := lpair_any 5 9 ⟨by omega, by omega⟩ ⟨by omega, by omega⟩ w
theorem lp55 (w : World) : Calls Tryd.prog 37 #[.int .i64 5, .int .i64 5] w fun e w' => e = .returned (.int .u64 p55) ∧ w = w' := lpair_any 5 5 ⟨by omega, by omega⟩ ⟨by omega, by omega⟩ w
theorem lp57 (w : World) : Calls Tryd.prog 37 #[.int .i64 5, .int .i64 7] w fun e w' => e = .returned (.int .u64 p57) ∧ w = w' := lpair_any 5 7 ⟨by omega, by omega⟩ ⟨by omega, by omega⟩ w
theorem lp67 (w : World) : Calls Tryd.prog 37 #[.int .i64 6, .int .i64 7] w fun e w' => e = .returned (.int .u64 p67) ∧ w = w' := lpair_any 6 7 ⟨by omega, by omega⟩ ⟨by omega, by omega⟩ w
theorem lc2 (w : World) : Calls Tryd.prog 36 #[.int .u64 4611686018427387904, .int .i64 0, .int .i64 2] w fun e w' => e = .returned (.int .u64 c2) ∧ w = w' := made_any 4611686018427387904 0 2 (.inr (.inl rfl)) ⟨by omega, by omega⟩ ⟨by omega, by omega⟩ w
theorem own_reads {w : World} {base : Nat} {A : Option Addr} {l : List Rel} {c : Nat} (ho : w.ownsRow base 31 6 (.slice A l.length c) l.length (rels l)) : Reads w w.heap.size 6 A l.length (rels l) := Reads.of_own ho
theorem lit_ids (w : World) (t : TypeId) (l : List Int) {C : Array Value} (hC : C.toList = ids l) {q : Nat} (hq : w.heap.size = q) : Reads (w.alloc (.cells C t)) (w.alloc (.cells C t)).heap.size 1 (some ⟨q, 0, none⟩) l.length (ids l) := by
  subst hq
  refine ⟨by rw [ids_len]; omega, fun _ => ⟨_, rfl, by simp, fun j u hu => ?_⟩⟩
  rw [add_none, Nat.zero_add]
  refine (World.cell?_alloc_mark w C t (0, 0) j).trans ?_
  rw [← Array.getElem?_toList, hC]; exact hu
/-- what is known of With's result -/
structure WK (W : World) (A : Option Addr) (c : Nat) : Prop where
  pol1 : ∀ W', Below W.heap.size W W' → Calls Tryd.prog 20 #[.slice A 3 c, .int .u64 p59, .int .i64 9] W' fun e w' => e = .returned (.tuple #[.int .i64 2, .bool true]) ∧ Below W'.heap.size W' w'
  pol2 : ∀ W', Below W.heap.size W W' → Calls Tryd.prog 20 #[.slice A 3 c, .int .u64 p55, .int .i64 5] W' fun e w' => e = .returned (.tuple #[.int .i64 1, .bool true]) ∧ Below W'.heap.size W' w'
  wid : ∀ W', Below W.heap.size W W' → Calls Tryd.prog 21 #[.slice A 3 c, .agg (widC 2), .int .u64 c2] W' fun e w' => e = .returned (.tuple #[.int .i64 2, .int .i64 0]) ∧ Below W'.heap.size W' w'
  eq : ∀ W', Below W.heap.size W W' → ∀ A2 c2, Reads W' W'.heap.size 6 A2 3 (rels smallL) → Calls Tryd.prog 15 #[.slice A 3 c, .slice A2 3 c2] W' fun e w' => e = .returned (.bool true) ∧ Below W'.heap.size W' w'
  rep : ∀ W', Below W.heap.size W W' → ∀ A2 c2, Reads W' W'.heap.size 1 A2 2 (ids (vals wkH)) → Calls Tryd.prog 30 #[.slice A 3 c, .slice A2 2 c2, .int .u64 p59] W' (OwnI [p57] W')
theorem wk_of {W : World} {A : Option Addr} {c : Nat} (hE : Env W) (hR : Reads W W.heap.size 6 A 3 (rels smallL)) : WK W A c where
  pol1 := fun W' h => by
    have := policy_yes A 3 c smallL p59 9 f5 W' (hE.below h) ((hR.below h).more h.size) (by omega) word59 wk_kd.1 (by rw [wk_kd.2.2.1]; exact wk_find) (by decide) (by decide) (.inr wk_kd.2.2.2.1.symm)
    rw [wk_kd.2.2.1, wk_kd.2.2.2.1] at this
    exact this
  pol2 := fun W' h => by
    have := policy_yes A 3 c smallL p55 5 f5 W' (hE.below h) ((hR.below h).more h.size) (by omega) word55 wk_kd.2.1 (by rw [wk_kd.2.2.2.2.1]; exact wk_find) (by decide) (by decide) (.inl wk_kd.2.2.2.2.1.symm)
    rw [wk_kd.2.2.2.2.1, wk_kd.2.2.2.2.2] at this
    exact this
  wid := fun W' h => by
    have := width_any A 3 c smallL 2 c2 W' (hE.below h) ((hR.below h).more h.size) (by omega) (by omega) wordc2
    rw [wk_width] at this
    exact this
  eq := fun W' h A2 c2 hR2 => by
    have := equal_rel A 3 c smallL A2 3 c2 smallL W' ((hR.below h).more h.size) hR2 (by omega) (by omega)
    rw [wk_seq] at this
    exact this
  rep := fun W' h A2 c2 hR2 => by
    have := repl_any A 3 c smallL A2 2 c2 wkH p59 W' (hE.below h) ((hR.below h).more h.size) (by omega) hR2 (by omega) word59
    rw [wk_repl] at this
    exact this
theorem eq57 {W W5 : World} {A : Option Addr} {c : Nat} {A2 : Option Addr} {c2 : Nat} (h : Below W5.heap.size W5 W) (hR : Reads W5 W5.heap.size 1 A 1 (ids [p57])) (hR2 : Reads W W.heap.size 1 A2 1 (ids [p57])) :
    Calls Tryd.prog 38 #[.slice A 1 c, .slice A2 1 c2] W fun e w' => e = .returned (.bool true) ∧ Below W.heap.size W w' := by
  have := equal_id A 1 c [p57] A2 1 c2 [p57] W ((hR.below h).more h.size) hR2 (by omega) (by omega)
  rw [show ([p57] == [p57]) = true from by decide +kernel] at this
  exact this
set_option maxRecDepth 100000 in
set_option maxHeartbeats 8000000 in
theorem wakes_any (w : World) (hE : Env w) : Calls Tryd.prog 8 #[] w fun e w' => e = .returned (.bool true) ∧ Below w.heap.size w w' := by
  have hB := Below.refl w.heap.size w
  have cn := fun (W : World) (h : Below w.heap.size w W) => tnew_own W (hE.below h)
  have cs := fun (W : World) => small_any W
  have cw := fun (W : World) (h : Below w.heap.size w W) (A : Option Addr) (c : Nat) (hR : Reads W W.heap.size 6 A 2 (rels firstL)) (hc : 2 ≤ c) (hc2 : c ≤ 9223372036854775807) => with_any A 2 c firstL f5 W (hE.below h) hR hc (by omega) hc2
  have hmk := fun (W : World) (h : Below w.heap.size w W) => Lib.hid (hE.below h)
  simp only [wk_with.1, wk_with.2] at cw
  unfold relV f5 at cw
  dsimp only at cw
  clear hE
  go_enter Tryd.func8, Tryd.ntmps8
  go_wp2_with (first
    | (go_at_call 14; ((with_reducible refine (cn _ hB).mono ?_); rintro e w1 ⟨v1, rfl, ho1, hb1⟩; obtain ⟨A1, c1, rfl, hc1, hc11⟩ := own_cap (show w1.ownsRow _ _ 6 _ 2 (rels firstL) from ho1); have HR1 := Lib.hid (Reads.of_own ho1); have hB := hB.trans (hb1.mono hB.size); clear ho1))
    | (go_at_call 35; ((with_reducible refine (cs _).mono ?_); rintro e w2 ⟨v2, rfl, ho2, hb2⟩; obtain ⟨g2, c2', rfl, hg2, y0, y1, y2, y3, y4, y5⟩ := small_at ho2; have HR2 := Lib.hid (Reads.of_own (show w2.ownsRow _ _ 6 (.slice _ 3 _) 3 (rels smallL) from ho2)); first
           | have h3 := h3.trans (hb2.mono h3.size)
           | (have HR1 := Lib.hid ((HR1.out.below hb2).more hb2.size); have hB := hB.trans (hb2.mono hB.size)); clear ho2))
    | (go_at_call 23; ((with_reducible refine (cw _ hB _ _ HR1.out (by omega) (by omega)).mono ?_); rintro e w3 ⟨v3, rfl, ho3, hb3⟩; obtain ⟨A3, c3, rfl, hc3, hc33⟩ := own_cap (show w3.ownsRow _ _ 6 _ 3 (rels smallL) from ho3); have HR3 := Reads.of_own (show w3.ownsRow _ _ 6 (.slice _ 3 _) 3 (rels smallL) from ho3); have hB := hB.trans (hb3.mono hB.size); have hW := wk_of (c := c3) (hmk _ hB).out HR3; have h3 := Below.refl w3.heap.size w3; have hBB := Lib.hid hB; clear hB ho3 HR3))
    | (go_at_call 36; ((with_reducible refine (lc2 _).mono ?_); rintro e w4 ⟨rfl, rfl⟩))
    | (go_at_call 21; ((refine (hW.wid _ h3).mono ?_); rintro e w4 ⟨rfl, hb4⟩; have h3 := h3.trans (hb4.mono h3.size)))
    | (go_at_call 37; (first | (with_reducible refine (lp59 _).mono ?_) | (with_reducible refine (lp55 _).mono ?_) | (with_reducible refine (lp57 _).mono ?_) | (with_reducible refine (lp67 _).mono ?_)); (rintro e w4 ⟨rfl, rfl⟩))
    | (go_at_call 20; (first | (with_reducible refine (hW.pol1 _ h3).mono ?_) | (with_reducible refine (hW.pol2 _ h3).mono ?_)); (rintro e w4 ⟨rfl, hb4⟩; have h3 := h3.trans (hb4.mono h3.size)))
    | (go_at_call 15; ((with_reducible refine (hW.eq _ h3 _ _ HR2.out).mono ?_); rintro e w4 ⟨rfl, hb4⟩; have h3 := h3.trans (hb4.mono h3.size)))
    | (go_at_call 30; ((refine (hW.rep _ (h3.alloc h3.size _) _ _ (lit_ids _ _ (vals wkH) (by rfl) (by rfl))).mono ?_); rintro e w5 ⟨v5, rfl, ho5, hb5⟩; obtain ⟨A5, c5, rfl, hc5, hc55⟩ := own_cap (show w5.ownsRow _ _ 1 _ 1 (ids [p57]) from ho5); have HR5 := Reads.of_own (show w5.ownsRow _ _ 1 (.slice _ 1 _) 1 (ids [p57]) from ho5); have h5 := (h3.alloc h3.size _).trans (hb5.mono (Nat.le_trans h3.size (by simp))); clear ho5))
    | (go_at_call 38; ((refine (eq57 ((Below.refl _ w5).alloc (Nat.le_refl _) _) HR5 (lit_ids _ _ [p57] (by rfl) (by rfl))).mono ?_); rintro e w6 ⟨rfl, hb6⟩; have hfin := (hBB.out.trans (h5.mono hBB.out.size)).trans ((((Below.refl _ w5).alloc (Nat.le_refl _) _).trans (hb6.mono (by simp))).mono (Nat.le_trans hBB.out.size h5.size))))
    | fail)
  go_ret
  exact ⟨rfl, hfin⟩
end Go.Proofs.YtibjelonabhcmaaDoor
