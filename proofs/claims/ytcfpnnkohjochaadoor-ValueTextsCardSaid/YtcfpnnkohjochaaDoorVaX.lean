/- What is proved: the walk of the law ValueWidths. Printed by mkX.py. -/
import Derived.Test.YtcfpnnkohjochaaDoorVaW
import Derived.Test.YtcfpnnkohjochaaDoorHeld
namespace Go.Proofs.YtcfpnnkohjochaaDoor
open Go.RowKit
set_option linter.unusedVariables false
set_option linter.unusedSimpArgs false
section
variable {P : Program}
theorem yieldsIf_load_row {ops : Array Oper} {S : World → Prop} {op : Oper} {a : Act} (hw : Region.wanted op (yielded ops a.tmps) = true) (ty : TypeId) (x : Operand) (ho : op.op = .load ty x)
    (g : Nat) (hx : a.eval x = .pointer (some ⟨g, 0, none⟩)) (t : TypeId) (cs : Array Value) (fr : Nat × Nat) (d : TypeDesc) (hS : ∀ w, S w → w.heap[g]? = some (.cells cs t fr))
    (hu : P.underlying ty = some d) (hd : (match d with | .struct _ | .array _ _ => true | _ => false) = true) (hi : (P.info? ty).map (·.size) = some cs.size) : YieldsIf P ops S op (.agg cs) a :=
  .inl ⟨hw, fun w hw' => by
    unfold execOp
    simp only [ho, hx, Instr.loadAt, Instr.sureAddr, Sem.run_bind, Sem.run_pure, Result.andThen_ok, run_loadVar_row w g t ty cs fr d (hS w hw') hu hd hi]⟩
end
theorem ways_no {L : List Int} (hb : wideB L = false) (c : Int) : widV L c = 0 ∧ widE L c = 141 := by
  have h1 : widE L c = 141 := by unfold widE; rw [hb]; rfl
  refine ⟨?_, h1⟩
  unfold widV
  rw [h1]; rfl
theorem ways_yes {L : List Int} (hL : L.length = 24) (hb : wideB L = true) (c : Int) : (compB c = false ∧ widV L c = 0 ∧ widE L c = 2) ∨ (compB c = true ∧ ∃ j : Nat, c = (j : Int) + 1 ∧ j < 24 ∧ ∃ x, widV L c = x ∧ widE L c = 0 ∧ L[j]? = some x) := by
  by_cases h : 1 ≤ c ∧ c ≤ 24
  · right
    have h1 : widE L c = 0 := by unfold widE; rw [hb]; simp [h]
    refine ⟨by unfold compB; simp [h], (c - 1).toNat, by omega, by omega, wdAt L c, ?_, h1, wdAt_at hL h.1 h.2⟩
    unfold widV
    rw [h1]; rfl
  · left
    have h1 : widE L c = 2 := by unfold widE; rw [hb]; simp [h]
    refine ⟨by unfold compB; simp [h], ?_, h1⟩
    unfold widV
    rw [h1]; rfl
set_option maxRecDepth 100000 in
set_option maxHeartbeats 16000000 in
theorem widths_law (L : List Int) (hL : L.length = 24) (A2 : Option Addr) (n2 c2 : Nat) (l2 : List Int) (A3 : Option Addr) (n3 c3 : Nat) (F : List RowA) (w : World) (hE : Env w) (hn2 : n2 ≤ 281474976710656) (hn3 : n3 ≤ maxLen)
    (hR2 : Reads w w.heap.size 1 A2 n2 (l2.map (Value.int .i64))) (hR3 : RV .u64 w w.heap.size A3 n3 F) :
    Calls Tryd.prog 6 #[.agg (wdV L), .slice A2 n2 c2, .slice A3 n3 c3] w fun e w' => e = .returned (.bool true) ∧ Below w.heap.size w w' := by
  unfold maxLen at hn3
  have hin : (Tryd.prog.info? 43).map (·.size) = some (wdV L).size := by rw [info_wd, wdV_size, hL]
  have hbk := last_blk w (.cells (wdV L) 43)
  have HIN := Lib.hid hin
  have HL := Lib.hid hL
  have HR2 := Lib.hid hR2
  have HR3 := Lib.hid hR3
  have hB0 := (Below.refl w.heap.size w).alloc (Nat.le_refl _) (.cells (wdV L) 43)
  have hB0s := hB0.size
  have h1 := Below.refl (w.alloc (.cells (wdV L) 43)).heap.size (w.alloc (.cells (wdV L) 43))
  have HBK := fun (W : World) (h : Below (w.alloc (.cells (wdV L) 43)).heap.size (w.alloc (.cells (wdV L) 43)) W) => (h.block w.heap.size (by simp)).trans hbk
  have cw := fun (W : World) (h : Below w.heap.size w W) => wakes_any W (hE.below h)
  have ce := fun W => wide_v L hL W
  have cr := fun W => rwide_v L hL W
  clear hin hbk hE hL hR2 hR3
  cases hb : wideB L
  · rw [show wideE L = 141 from by unfold wideE; rw [hb]; rfl] at ce
    rw [hb] at cr
    go_enter Tryd.func6, Tryd.ntmps6
    go_wp2_with (first
      | (refine wpList_load_row rfl 43 (.tmp 3) rfl w.heap.size rfl 43 (wdV L) (0, 0) _ (HBK _ h1) Tryd.underlying43 rfl HIN.out ?_)
      | (go_at_call 9; ((with_reducible refine (cw _ (hB0.trans (h1.mono hB0s))).mono ?_); rintro e w1 ⟨rfl, hb1⟩; have h1 := h1.trans (hb1.mono h1.size)))
      | (go_at_call 23; ((with_reducible refine (cr _).mono ?_); rintro e w2 ⟨rfl, hb2⟩; have h1 := h1.trans (hb2.mono h1.size)))
      | (go_at_call 22; ((with_reducible refine (ce _).mono ?_); rintro e w2 ⟨rfl, hb2⟩; have h1 := h1.trans (hb2.mono h1.size)))
      | fail)
    clear cw ce cr
    go_loopw [37] (fun i wr => ∃ k : Nat, k ≤ n2 ∧ i = .int .i64 k ∧ Below (w.alloc (.cells (wdV L) 43)).heap.size (w.alloc (.cells (wdV L) 43)) wr)
      (fun i _ => n2 - (intOf i).toNat)
    case atStart => exact ⟨0, Nat.zero_le _, rfl, h1⟩
    case round =>
      clear h1
      obtain ⟨k, hk, rfl, h1⟩ := hrel
      rcases (show k = n2 ∨ (k = 8 ∧ k < n2) ∨ (k ≠ 8 ∧ k < n2) from by omega) with hkn | hlt | ⟨h6, hlt⟩
      case inr.inr =>
        have hl2 : l2.length = n2 := by have := HR2.out.1; rw [List.length_map] at this; omega
        have e1 := List.getElem?_eq_getElem (l := l2) (i := k) (by omega)
        generalize l2[k]'(by omega) = z at e1
        obtain ⟨p, off, rfl, hbl, g⟩ := row_cell HR2.out (k := k) (v := .int .i64 z) (by rw [List.getElem?_map, e1]; rfl)
        have g10 := cell_below' (hB0.trans (h1.mono hB0s)) g hbl
        have t6 : ((k : Int) == 8) = false := by simp; omega
        have ct := fun W => width_v L HL.out z W
        have cc := fun W => comp_v z W
        clear e1 g hl2
        obtain ⟨k8, k9⟩ := ways_no hb z
        rw [k8, k9] at ct
        clear k8 k9 cc
        go_wp2_with (first
          | (refine wpList_load_row rfl 43 (.tmp 3) rfl w.heap.size rfl 43 (wdV L) (0, 0) _ (HBK _ h1) Tryd.underlying43 rfl HIN.out ?_)
          | (go_at_call 19; ((with_reducible refine (ct _).mono ?_); rintro e w2 ⟨rfl, hb2⟩; have h1 := h1.trans (hb2.mono h1.size)))
          | fail)
        clear ct g10
        go_hide hQ
        go_loopw [67] (fun i wr => ∃ k2 : Nat, k2 ≤ n3 ∧ i = .int .i64 k2 ∧ Below (w.alloc (.cells (wdV L) 43)).heap.size (w.alloc (.cells (wdV L) 43)) wr)
          (fun i _ => n3 - (intOf i).toNat)
        case atStart => exact ⟨0, Nat.zero_le _, rfl, h1⟩
        case round =>
          clear h1
          obtain ⟨k2, hk2, rfl, h1⟩ := hrel
          by_cases hlt2 : k2 < n3
          · obtain ⟨y, p', off', -, rfl, hbl2, g2, hy⟩ := nest_at HR3.out hlt2
            have g20 := cell_below' (hB0.trans (h1.mono hB0s)) g2 hbl2
            obtain ⟨ly, hly⟩ : ∃ ly, y.l.take 8 = ly := ⟨_, rfl⟩
            obtain ⟨m2, hm2⟩ : ∃ m2, ly.length = m2 := ⟨_, rfl⟩
            have hm28 : m2 ≤ 8 := by rw [← hm2, ← hly, List.length_take]; omega
            have cy := fun (W : World) (h : Below w.heap.size w W) => own_a y ((hy.keep h).more h.size) hly hm2
            have d1 := fun (A : Option Addr) (c : Nat) W => fits_v L HL.out z A m2 c (by omega) W
            have d2 := fun (A : Option Addr) (c : Nat) W => rfits_v L HL.out z A m2 c (by omega) W
            rw [rfits_eq] at d2
            generalize (widE L z == 0 && (m2 : Int) == widV L z) = bz at d1 d2
            have hbz : (bz != bz) = false := by simp
            obtain ⟨yA, yn, yc, yl⟩ := y
            clear hly hy g2 hm2
            cases ht : decide ((k2 : Int) < 6)
            · go_wp2_with fail
              subst hQ
              refine wp_region_held_drew (S := fun W => Below (w.alloc (.cells (wdV L) 43)).heap.size (w.alloc (.cells (wdV L) 43)) W) (by kernel_rfl) (show Below _ _ _ from h1.drew) (fun hHeld => ?_)
              refine wpAnyH_take (i := 0) (oi := _) (v := ?_) rfl (by kernel_rfl) (by kernel_rfl) (by kernel_rfl) (fun _ _ _ h => h) (Or.inl ⟨by rfl, ?_⟩) hHeld ?_
              rotate_left
              · intro w hSw; obtain hSw := hSw; go_simp; try with_reducible rfl
              simp only [Act.put, List.getElem_toArray, List.getElem_cons_succ, List.getElem_cons_zero, List.setIfInBounds_toArray, List.set_cons_zero, List.set_cons_succ]
              refine wpAnyH_take (i := 1) (oi := _) (v := ?_) rfl (by kernel_rfl) (by kernel_rfl) (by kernel_rfl) (fun _ _ _ h => h) (Or.inl ⟨by rfl, ?_⟩) hHeld ?_
              rotate_left
              · intro w hSw; obtain hSw := hSw; go_simp; try with_reducible rfl
              simp only [Act.put, List.getElem_toArray, List.getElem_cons_succ, List.getElem_cons_zero, List.setIfInBounds_toArray, List.set_cons_zero, List.set_cons_succ]
              refine wpAnyH_take (i := 2) (oi := _) (v := ?_) rfl (by kernel_rfl) (by kernel_rfl) (by kernel_rfl) (fun _ _ _ h => h) (Or.inl ⟨by rfl, ?_⟩) hHeld ?_
              rotate_left
              · intro w hSw; obtain hSw := hSw; go_simp; try with_reducible rfl
              simp only [Act.put, List.getElem_toArray, List.getElem_cons_succ, List.getElem_cons_zero, List.setIfInBounds_toArray, List.set_cons_zero, List.set_cons_succ]
              refine wpAnyH_take (i := 3) (oi := _) rfl (by kernel_rfl) (by kernel_rfl) (by kernel_rfl) (fun _ _ _ h => h) (Or.inr ⟨by rfl, rfl⟩) hHeld ?_
              simp only [Act.put, List.getElem_toArray, List.getElem_cons_succ, List.getElem_cons_zero, List.setIfInBounds_toArray, List.set_cons_zero, List.set_cons_succ]
              refine wpAnyH_take (i := 4) (oi := _) rfl (by kernel_rfl) (by kernel_rfl) (by kernel_rfl) (fun _ _ _ h => h) (Or.inr ⟨by rfl, rfl⟩) hHeld ?_
              simp only [Act.put, List.getElem_toArray, List.getElem_cons_succ, List.getElem_cons_zero, List.setIfInBounds_toArray, List.set_cons_zero, List.set_cons_succ]
              refine wpAnyH_take (i := 5) (oi := _) rfl (by kernel_rfl) (by kernel_rfl) (by kernel_rfl) (fun _ _ _ h => h) (Or.inr ⟨by rfl, rfl⟩) hHeld ?_
              simp only [Act.put, List.getElem_toArray, List.getElem_cons_succ, List.getElem_cons_zero, List.setIfInBounds_toArray, List.set_cons_zero, List.set_cons_succ]
              refine wpAnyH_take (i := 6) (oi := _) rfl (by kernel_rfl) (by kernel_rfl) (by kernel_rfl) (fun _ _ _ h => h) (Or.inr ⟨by rfl, rfl⟩) hHeld ?_
              simp only [Act.put, List.getElem_toArray, List.getElem_cons_succ, List.getElem_cons_zero, List.setIfInBounds_toArray, List.set_cons_zero, List.set_cons_succ]
              refine wpAnyH_take (i := 7) (oi := _) rfl (by kernel_rfl) (by kernel_rfl) (by kernel_rfl) (fun _ _ _ h => h) (Or.inr ⟨by rfl, rfl⟩) hHeld ?_
              simp only [Act.put, List.getElem_toArray, List.getElem_cons_succ, List.getElem_cons_zero, List.setIfInBounds_toArray, List.set_cons_zero, List.set_cons_succ]
              refine wpAnyH_take (i := 8) (oi := _) rfl (by kernel_rfl) (by kernel_rfl) (by kernel_rfl) (fun _ _ _ h => h) (Or.inr ⟨by rfl, rfl⟩) hHeld ?_
              simp only [Act.put, List.getElem_toArray, List.getElem_cons_succ, List.getElem_cons_zero, List.setIfInBounds_toArray, List.set_cons_zero, List.set_cons_succ]
              refine wpAnyH_take (i := 9) (oi := _) rfl (by kernel_rfl) (by kernel_rfl) (by kernel_rfl) (fun _ _ _ h => h) (Or.inr ⟨by rfl, rfl⟩) hHeld ?_
              simp only [Act.put, List.getElem_toArray, List.getElem_cons_succ, List.getElem_cons_zero, List.setIfInBounds_toArray, List.set_cons_zero, List.set_cons_succ]
              refine wpAnyH_take (i := 10) (oi := _) rfl (by kernel_rfl) (by kernel_rfl) (by kernel_rfl) (fun _ _ _ h => h) (Or.inr ⟨by rfl, rfl⟩) hHeld ?_
              simp only [Act.put, List.getElem_toArray, List.getElem_cons_succ, List.getElem_cons_zero, List.setIfInBounds_toArray, List.set_cons_zero, List.set_cons_succ]
              refine wpAnyH_take (i := 11) (oi := _) rfl (by kernel_rfl) (by kernel_rfl) (by kernel_rfl) (fun _ _ _ h => h) (Or.inr ⟨by rfl, rfl⟩) hHeld ?_
              simp only [Act.put, List.getElem_toArray, List.getElem_cons_succ, List.getElem_cons_zero, List.setIfInBounds_toArray, List.set_cons_zero, List.set_cons_succ]
              refine wpAnyH_take (i := 12) (oi := _) rfl (by kernel_rfl) (by kernel_rfl) (by kernel_rfl) (fun _ _ _ h => h) (Or.inr ⟨by rfl, rfl⟩) hHeld ?_
              simp only [Act.put, List.getElem_toArray, List.getElem_cons_succ, List.getElem_cons_zero, List.setIfInBounds_toArray, List.set_cons_zero, List.set_cons_succ]
              refine wpAnyH_take (i := 13) (oi := _) rfl (by kernel_rfl) (by kernel_rfl) (by kernel_rfl) (fun _ _ _ h => h) (Or.inr ⟨by rfl, rfl⟩) hHeld ?_
              simp only [Act.put, List.getElem_toArray, List.getElem_cons_succ, List.getElem_cons_zero, List.setIfInBounds_toArray, List.set_cons_zero, List.set_cons_succ]
              refine wpAnyH_take (i := 14) (oi := _) (v := ?_) rfl (by kernel_rfl) (by kernel_rfl) (by kernel_rfl) (fun _ _ _ h => h) (Or.inl ⟨by rfl, ?_⟩) hHeld ?_
              rotate_left
              · intro w hSw; obtain hSw := hSw; go_simp; try with_reducible rfl
              simp only [Act.put, List.getElem_toArray, List.getElem_cons_succ, List.getElem_cons_zero, List.setIfInBounds_toArray, List.set_cons_zero, List.set_cons_succ]
              refine wpAnyH_done (by kernel_rfl) ?_ _
              have h1 : Below _ _ _ := hHeld
              go_wp2_with fail
              go_roundw
              case rel => exact ⟨k2 + 1, by omega, by go_num, h1⟩
              case measure => simp [intOf]; omega
            · go_wp2_with fail
              subst hQ
              refine wp_region_held_drew (S := fun W => Below (w.alloc (.cells (wdV L) 43)).heap.size (w.alloc (.cells (wdV L) 43)) W) (by kernel_rfl) (show Below _ _ _ from h1.drew) (fun hHeld => ?_)
              refine wpAnyH_take (i := 0) (oi := _) (v := ?_) rfl (by kernel_rfl) (by kernel_rfl) (by kernel_rfl) (fun _ _ _ h => h) (Or.inl ⟨by rfl, ?_⟩) hHeld ?_
              rotate_left
              · intro w hSw; obtain hSw := hSw; go_simp; try with_reducible rfl
              simp only [Act.put, List.getElem_toArray, List.getElem_cons_succ, List.getElem_cons_zero, List.setIfInBounds_toArray, List.set_cons_zero, List.set_cons_succ]
              refine wpAnyH_take (i := 1) (oi := _) (v := ?_) rfl (by kernel_rfl) (by kernel_rfl) (by kernel_rfl) (fun _ _ _ h => h) (Or.inl ⟨by rfl, ?_⟩) hHeld ?_
              rotate_left
              · intro w hSw; obtain hSw := hSw; go_simp; try with_reducible rfl
              simp only [Act.put, List.getElem_toArray, List.getElem_cons_succ, List.getElem_cons_zero, List.setIfInBounds_toArray, List.set_cons_zero, List.set_cons_succ]
              refine wpAnyH_take (i := 2) (oi := _) (v := ?_) rfl (by kernel_rfl) (by kernel_rfl) (by kernel_rfl) (fun _ _ _ h => h) (Or.inl ⟨by rfl, ?_⟩) hHeld ?_
              rotate_left
              · intro w hSw; obtain hSw := hSw; go_simp; try with_reducible rfl
              simp only [Act.put, List.getElem_toArray, List.getElem_cons_succ, List.getElem_cons_zero, List.setIfInBounds_toArray, List.set_cons_zero, List.set_cons_succ]
              refine wpAnyH_take (i := 3) (oi := _) rfl (by kernel_rfl) (by kernel_rfl) (by kernel_rfl) (fun _ _ _ h => h) (yieldsIf_load_row rfl 43 (.tmp 3) rfl w.heap.size rfl 43 (wdV L) (0, 0) _ (fun W hW => HBK W hW) Tryd.underlying43 rfl HIN.out) hHeld ?_
              simp only [Act.put, List.getElem_toArray, List.getElem_cons_succ, List.getElem_cons_zero, List.setIfInBounds_toArray, List.set_cons_zero, List.set_cons_succ]
              refine wpAnyH_take (i := 4) (oi := _) (v := ?_) rfl (by kernel_rfl) (by kernel_rfl) (by kernel_rfl) (fun _ _ _ h => h) (Or.inl ⟨by rfl, ?_⟩) hHeld ?_
              rotate_left
              · intro w hSw; obtain hSw := hSw; go_simp; try with_reducible rfl
              simp only [Act.put, List.getElem_toArray, List.getElem_cons_succ, List.getElem_cons_zero, List.setIfInBounds_toArray, List.set_cons_zero, List.set_cons_succ]
              refine wpAnyH_take (i := 5) (oi := _) (v := ?_) rfl (by kernel_rfl) (by kernel_rfl) (by kernel_rfl) (fun _ _ _ h => h) (Or.inl ⟨by rfl, ?_⟩) hHeld ?_
              rotate_left
              · intro w hSw; obtain hSw := hSw; go_simp; try with_reducible rfl
              simp only [Act.put, List.getElem_toArray, List.getElem_cons_succ, List.getElem_cons_zero, List.setIfInBounds_toArray, List.set_cons_zero, List.set_cons_succ]
              refine wpAnyH_take (i := 8) (oi := _) rfl (by kernel_rfl) (by kernel_rfl) (by kernel_rfl) (fun _ _ _ h => h) (yieldsIf_load_row rfl 43 (.tmp 3) rfl w.heap.size rfl 43 (wdV L) (0, 0) _ (fun W hW => HBK W hW) Tryd.underlying43 rfl HIN.out) hHeld ?_
              simp only [Act.put, List.getElem_toArray, List.getElem_cons_succ, List.getElem_cons_zero, List.setIfInBounds_toArray, List.set_cons_zero, List.set_cons_succ]
              refine wpAnyH_take (i := 9) (oi := _) (v := ?_) rfl (by kernel_rfl) (by kernel_rfl) (by kernel_rfl) (fun _ _ _ h => h) (Or.inl ⟨by rfl, ?_⟩) hHeld ?_
              rotate_left
              · intro w hSw; obtain hSw := hSw; go_simp; try with_reducible rfl
              simp only [Act.put, List.getElem_toArray, List.getElem_cons_succ, List.getElem_cons_zero, List.setIfInBounds_toArray, List.set_cons_zero, List.set_cons_succ]
              refine wpAnyH_take (i := 10) (oi := _) (v := ?_) rfl (by kernel_rfl) (by kernel_rfl) (by kernel_rfl) (fun _ _ _ h => h) (Or.inl ⟨by rfl, ?_⟩) hHeld ?_
              rotate_left
              · intro w hSw; obtain hSw := hSw; go_simp; try with_reducible rfl
              simp only [Act.put, List.getElem_toArray, List.getElem_cons_succ, List.getElem_cons_zero, List.setIfInBounds_toArray, List.set_cons_zero, List.set_cons_succ]
              refine wpAnyH_ready (rs := [6]) (by kernel_rfl) (by simp) (AllReadyH.cons (o := _) rfl (fun K hK => ?_) AllReadyH.nil)
              go_simp
              go_at_call 10
              refine (cy _ (hB0.trans (hHeld.mono hB0s))).mono ?_
              rintro e w5 ⟨A8, k8, rfl, ho8, hb8⟩
              refine hK.out _ _ (hHeld.trans (hb8.mono hHeld.size)) (fun hHeld => ?_)
              clear hK K
              try simp only [Act.put, List.getElem_toArray, List.getElem_cons_succ, List.getElem_cons_zero, List.setIfInBounds_toArray, List.set_cons_zero, List.set_cons_succ]
              refine wpAnyH_ready (rs := [7]) (by kernel_rfl) (by simp) (AllReadyH.cons (o := _) rfl (fun K hK => ?_) AllReadyH.nil)
              go_simp
              go_at_call 21
              refine (d1 _ _ _).mono ?_
              rintro e w6 ⟨rfl, hb8⟩
              refine hK.out _ _ (hHeld.trans (hb8.mono hHeld.size)) (fun hHeld => ?_)
              clear hK K
              try simp only [Act.put, List.getElem_toArray, List.getElem_cons_succ, List.getElem_cons_zero, List.setIfInBounds_toArray, List.set_cons_zero, List.set_cons_succ]
              refine wpAnyH_ready (rs := [11]) (by kernel_rfl) (by simp) (AllReadyH.cons (o := _) rfl (fun K hK => ?_) AllReadyH.nil)
              go_simp
              go_at_call 10
              refine (cy _ (hB0.trans (hHeld.mono hB0s))).mono ?_
              rintro e w5 ⟨A8, k8, rfl, ho8, hb8⟩
              refine hK.out _ _ (hHeld.trans (hb8.mono hHeld.size)) (fun hHeld => ?_)
              clear hK K
              try simp only [Act.put, List.getElem_toArray, List.getElem_cons_succ, List.getElem_cons_zero, List.setIfInBounds_toArray, List.set_cons_zero, List.set_cons_succ]
              refine wpAnyH_ready (rs := [12]) (by kernel_rfl) (by simp) (AllReadyH.cons (o := _) rfl (fun K hK => ?_) AllReadyH.nil)
              go_simp
              go_at_call 25
              refine (d2 _ _ _).mono ?_
              rintro e w6 ⟨rfl, hb8⟩
              refine hK.out _ _ (hHeld.trans (hb8.mono hHeld.size)) (fun hHeld => ?_)
              clear hK K
              try simp only [Act.put, List.getElem_toArray, List.getElem_cons_succ, List.getElem_cons_zero, List.setIfInBounds_toArray, List.set_cons_zero, List.set_cons_succ]
              refine wpAnyH_take (i := 13) (oi := _) (v := ?_) rfl (by kernel_rfl) (by kernel_rfl) (by kernel_rfl) (fun _ _ _ h => h) (Or.inl ⟨by rfl, ?_⟩) hHeld ?_
              rotate_left
              · intro w hSw; obtain hSw := hSw; go_simp; try with_reducible rfl
              simp only [Act.put, List.getElem_toArray, List.getElem_cons_succ, List.getElem_cons_zero, List.setIfInBounds_toArray, List.set_cons_zero, List.set_cons_succ]
              refine wpAnyH_take (i := 14) (oi := _) (v := ?_) rfl (by kernel_rfl) (by kernel_rfl) (by kernel_rfl) (fun _ _ _ h => h) (Or.inl ⟨by rfl, ?_⟩) hHeld ?_
              rotate_left
              · intro w hSw; obtain hSw := hSw; go_simp; try with_reducible rfl
              simp only [Act.put, List.getElem_toArray, List.getElem_cons_succ, List.getElem_cons_zero, List.setIfInBounds_toArray, List.set_cons_zero, List.set_cons_succ]
              refine wpAnyH_done (by kernel_rfl) ?_ _
              have h1 : Below _ _ _ := hHeld
              go_wp2_with fail
              go_roundw
              case rel => exact ⟨k2 + 1, by omega, by go_num, h1⟩
              case measure => simp [intOf]; omega
          · go_wp2_with fail
            subst hQ
            go_wp2_with fail
            go_roundw
            case rel => exact ⟨k + 1, by omega, by go_num, h1⟩
            case measure => simp [intOf]; omega
      case inr.inl =>
        obtain ⟨rfl, hlt⟩ := hlt
        have hl2 : l2.length = n2 := by have := HR2.out.1; rw [List.length_map] at this; omega
        have e1 := List.getElem?_eq_getElem (l := l2) (i := 8) (by omega)
        generalize l2[8]'(by omega) = z at e1
        obtain ⟨p, off, rfl, hbl, g⟩ := row_cell HR2.out (k := 8) (v := .int .i64 z) (by rw [List.getElem?_map, e1]; rfl)
        have g10 := cell_below' (hB0.trans (h1.mono hB0s)) g hbl
        clear e1 g hl2
        go_wp2_with fail
        try rw [Exit.noGoto_ret]
        go_ret
        exact ⟨rfl, hB0.trans (h1.mono hB0s)⟩
      case inl =>
        subst hkn
        go_wp2_with fail
        try rw [Exit.noGoto_ret]
        go_ret
        exact ⟨rfl, hB0.trans (h1.mono hB0s)⟩
  · rw [show wideE L = 0 from by unfold wideE; rw [hb]; rfl] at ce
    rw [hb] at cr
    go_enter Tryd.func6, Tryd.ntmps6
    go_wp2_with (first
      | (refine wpList_load_row rfl 43 (.tmp 3) rfl w.heap.size rfl 43 (wdV L) (0, 0) _ (HBK _ h1) Tryd.underlying43 rfl HIN.out ?_)
      | (go_at_call 9; ((with_reducible refine (cw _ (hB0.trans (h1.mono hB0s))).mono ?_); rintro e w1 ⟨rfl, hb1⟩; have h1 := h1.trans (hb1.mono h1.size)))
      | (go_at_call 23; ((with_reducible refine (cr _).mono ?_); rintro e w2 ⟨rfl, hb2⟩; have h1 := h1.trans (hb2.mono h1.size)))
      | (go_at_call 22; ((with_reducible refine (ce _).mono ?_); rintro e w2 ⟨rfl, hb2⟩; have h1 := h1.trans (hb2.mono h1.size)))
      | fail)
    clear cw ce cr
    go_loopw [37] (fun i wr => ∃ k : Nat, k ≤ n2 ∧ i = .int .i64 k ∧ Below (w.alloc (.cells (wdV L) 43)).heap.size (w.alloc (.cells (wdV L) 43)) wr)
      (fun i _ => n2 - (intOf i).toNat)
    case atStart => exact ⟨0, Nat.zero_le _, rfl, h1⟩
    case round =>
      clear h1
      obtain ⟨k, hk, rfl, h1⟩ := hrel
      rcases (show k = n2 ∨ (k = 8 ∧ k < n2) ∨ (k ≠ 8 ∧ k < n2) from by omega) with hkn | hlt | ⟨h6, hlt⟩
      case inr.inr =>
        have hl2 : l2.length = n2 := by have := HR2.out.1; rw [List.length_map] at this; omega
        have e1 := List.getElem?_eq_getElem (l := l2) (i := k) (by omega)
        generalize l2[k]'(by omega) = z at e1
        obtain ⟨p, off, rfl, hbl, g⟩ := row_cell HR2.out (k := k) (v := .int .i64 z) (by rw [List.getElem?_map, e1]; rfl)
        have g10 := cell_below' (hB0.trans (h1.mono hB0s)) g hbl
        have t6 : ((k : Int) == 8) = false := by simp; omega
        have ct := fun W => width_v L HL.out z W
        have cc := fun W => comp_v z W
        clear e1 g hl2
        rcases ways_yes HL.out hb z with ⟨k7, k8, k9⟩ | ⟨k7, j, rfl, hj24, x, k8, k9, e9⟩
        · rw [k8, k9] at ct
          rw [k7] at cc
          clear k7 k8 k9
          go_wp2_with (first
            | (refine wpList_load_row rfl 43 (.tmp 3) rfl w.heap.size rfl 43 (wdV L) (0, 0) _ (HBK _ h1) Tryd.underlying43 rfl HIN.out ?_)
            | (go_at_call 19; ((with_reducible refine (ct _).mono ?_); rintro e w2 ⟨rfl, hb2⟩; have h1 := h1.trans (hb2.mono h1.size)))
            | (go_at_call 24; ((with_reducible refine (cc _).mono ?_); rintro e w3 ⟨rfl, rfl⟩))
            | fail)
          clear ct cc g10
          go_hide hQ
          go_loopw [67] (fun i wr => ∃ k2 : Nat, k2 ≤ n3 ∧ i = .int .i64 k2 ∧ Below (w.alloc (.cells (wdV L) 43)).heap.size (w.alloc (.cells (wdV L) 43)) wr)
            (fun i _ => n3 - (intOf i).toNat)
          case atStart => exact ⟨0, Nat.zero_le _, rfl, h1⟩
          case round =>
            clear h1
            obtain ⟨k2, hk2, rfl, h1⟩ := hrel
            by_cases hlt2 : k2 < n3
            · obtain ⟨y, p', off', -, rfl, hbl2, g2, hy⟩ := nest_at HR3.out hlt2
              have g20 := cell_below' (hB0.trans (h1.mono hB0s)) g2 hbl2
              obtain ⟨ly, hly⟩ : ∃ ly, y.l.take 8 = ly := ⟨_, rfl⟩
              obtain ⟨m2, hm2⟩ : ∃ m2, ly.length = m2 := ⟨_, rfl⟩
              have hm28 : m2 ≤ 8 := by rw [← hm2, ← hly, List.length_take]; omega
              have cy := fun (W : World) (h : Below w.heap.size w W) => own_a y ((hy.keep h).more h.size) hly hm2
              have d1 := fun (A : Option Addr) (c : Nat) W => fits_v L HL.out z A m2 c (by omega) W
              have d2 := fun (A : Option Addr) (c : Nat) W => rfits_v L HL.out z A m2 c (by omega) W
              rw [rfits_eq] at d2
              generalize (widE L z == 0 && (m2 : Int) == widV L z) = bz at d1 d2
              have hbz : (bz != bz) = false := by simp
              obtain ⟨yA, yn, yc, yl⟩ := y
              clear hly hy g2 hm2
              cases ht : decide ((k2 : Int) < 6)
              · go_wp2_with fail
                subst hQ
                refine wp_region_held_drew (S := fun W => Below (w.alloc (.cells (wdV L) 43)).heap.size (w.alloc (.cells (wdV L) 43)) W) (by kernel_rfl) (show Below _ _ _ from h1.drew) (fun hHeld => ?_)
                refine wpAnyH_take (i := 0) (oi := _) (v := ?_) rfl (by kernel_rfl) (by kernel_rfl) (by kernel_rfl) (fun _ _ _ h => h) (Or.inl ⟨by rfl, ?_⟩) hHeld ?_
                rotate_left
                · intro w hSw; obtain hSw := hSw; go_simp; try with_reducible rfl
                simp only [Act.put, List.getElem_toArray, List.getElem_cons_succ, List.getElem_cons_zero, List.setIfInBounds_toArray, List.set_cons_zero, List.set_cons_succ]
                refine wpAnyH_take (i := 1) (oi := _) (v := ?_) rfl (by kernel_rfl) (by kernel_rfl) (by kernel_rfl) (fun _ _ _ h => h) (Or.inl ⟨by rfl, ?_⟩) hHeld ?_
                rotate_left
                · intro w hSw; obtain hSw := hSw; go_simp; try with_reducible rfl
                simp only [Act.put, List.getElem_toArray, List.getElem_cons_succ, List.getElem_cons_zero, List.setIfInBounds_toArray, List.set_cons_zero, List.set_cons_succ]
                refine wpAnyH_take (i := 2) (oi := _) (v := ?_) rfl (by kernel_rfl) (by kernel_rfl) (by kernel_rfl) (fun _ _ _ h => h) (Or.inl ⟨by rfl, ?_⟩) hHeld ?_
                rotate_left
                · intro w hSw; obtain hSw := hSw; go_simp; try with_reducible rfl
                simp only [Act.put, List.getElem_toArray, List.getElem_cons_succ, List.getElem_cons_zero, List.setIfInBounds_toArray, List.set_cons_zero, List.set_cons_succ]
                refine wpAnyH_take (i := 3) (oi := _) rfl (by kernel_rfl) (by kernel_rfl) (by kernel_rfl) (fun _ _ _ h => h) (Or.inr ⟨by rfl, rfl⟩) hHeld ?_
                simp only [Act.put, List.getElem_toArray, List.getElem_cons_succ, List.getElem_cons_zero, List.setIfInBounds_toArray, List.set_cons_zero, List.set_cons_succ]
                refine wpAnyH_take (i := 4) (oi := _) rfl (by kernel_rfl) (by kernel_rfl) (by kernel_rfl) (fun _ _ _ h => h) (Or.inr ⟨by rfl, rfl⟩) hHeld ?_
                simp only [Act.put, List.getElem_toArray, List.getElem_cons_succ, List.getElem_cons_zero, List.setIfInBounds_toArray, List.set_cons_zero, List.set_cons_succ]
                refine wpAnyH_take (i := 5) (oi := _) rfl (by kernel_rfl) (by kernel_rfl) (by kernel_rfl) (fun _ _ _ h => h) (Or.inr ⟨by rfl, rfl⟩) hHeld ?_
                simp only [Act.put, List.getElem_toArray, List.getElem_cons_succ, List.getElem_cons_zero, List.setIfInBounds_toArray, List.set_cons_zero, List.set_cons_succ]
                refine wpAnyH_take (i := 6) (oi := _) rfl (by kernel_rfl) (by kernel_rfl) (by kernel_rfl) (fun _ _ _ h => h) (Or.inr ⟨by rfl, rfl⟩) hHeld ?_
                simp only [Act.put, List.getElem_toArray, List.getElem_cons_succ, List.getElem_cons_zero, List.setIfInBounds_toArray, List.set_cons_zero, List.set_cons_succ]
                refine wpAnyH_take (i := 7) (oi := _) rfl (by kernel_rfl) (by kernel_rfl) (by kernel_rfl) (fun _ _ _ h => h) (Or.inr ⟨by rfl, rfl⟩) hHeld ?_
                simp only [Act.put, List.getElem_toArray, List.getElem_cons_succ, List.getElem_cons_zero, List.setIfInBounds_toArray, List.set_cons_zero, List.set_cons_succ]
                refine wpAnyH_take (i := 8) (oi := _) rfl (by kernel_rfl) (by kernel_rfl) (by kernel_rfl) (fun _ _ _ h => h) (Or.inr ⟨by rfl, rfl⟩) hHeld ?_
                simp only [Act.put, List.getElem_toArray, List.getElem_cons_succ, List.getElem_cons_zero, List.setIfInBounds_toArray, List.set_cons_zero, List.set_cons_succ]
                refine wpAnyH_take (i := 9) (oi := _) rfl (by kernel_rfl) (by kernel_rfl) (by kernel_rfl) (fun _ _ _ h => h) (Or.inr ⟨by rfl, rfl⟩) hHeld ?_
                simp only [Act.put, List.getElem_toArray, List.getElem_cons_succ, List.getElem_cons_zero, List.setIfInBounds_toArray, List.set_cons_zero, List.set_cons_succ]
                refine wpAnyH_take (i := 10) (oi := _) rfl (by kernel_rfl) (by kernel_rfl) (by kernel_rfl) (fun _ _ _ h => h) (Or.inr ⟨by rfl, rfl⟩) hHeld ?_
                simp only [Act.put, List.getElem_toArray, List.getElem_cons_succ, List.getElem_cons_zero, List.setIfInBounds_toArray, List.set_cons_zero, List.set_cons_succ]
                refine wpAnyH_take (i := 11) (oi := _) rfl (by kernel_rfl) (by kernel_rfl) (by kernel_rfl) (fun _ _ _ h => h) (Or.inr ⟨by rfl, rfl⟩) hHeld ?_
                simp only [Act.put, List.getElem_toArray, List.getElem_cons_succ, List.getElem_cons_zero, List.setIfInBounds_toArray, List.set_cons_zero, List.set_cons_succ]
                refine wpAnyH_take (i := 12) (oi := _) rfl (by kernel_rfl) (by kernel_rfl) (by kernel_rfl) (fun _ _ _ h => h) (Or.inr ⟨by rfl, rfl⟩) hHeld ?_
                simp only [Act.put, List.getElem_toArray, List.getElem_cons_succ, List.getElem_cons_zero, List.setIfInBounds_toArray, List.set_cons_zero, List.set_cons_succ]
                refine wpAnyH_take (i := 13) (oi := _) rfl (by kernel_rfl) (by kernel_rfl) (by kernel_rfl) (fun _ _ _ h => h) (Or.inr ⟨by rfl, rfl⟩) hHeld ?_
                simp only [Act.put, List.getElem_toArray, List.getElem_cons_succ, List.getElem_cons_zero, List.setIfInBounds_toArray, List.set_cons_zero, List.set_cons_succ]
                refine wpAnyH_take (i := 14) (oi := _) (v := ?_) rfl (by kernel_rfl) (by kernel_rfl) (by kernel_rfl) (fun _ _ _ h => h) (Or.inl ⟨by rfl, ?_⟩) hHeld ?_
                rotate_left
                · intro w hSw; obtain hSw := hSw; go_simp; try with_reducible rfl
                simp only [Act.put, List.getElem_toArray, List.getElem_cons_succ, List.getElem_cons_zero, List.setIfInBounds_toArray, List.set_cons_zero, List.set_cons_succ]
                refine wpAnyH_done (by kernel_rfl) ?_ _
                have h1 : Below _ _ _ := hHeld
                go_wp2_with fail
                go_roundw
                case rel => exact ⟨k2 + 1, by omega, by go_num, h1⟩
                case measure => simp [intOf]; omega
              · go_wp2_with fail
                subst hQ
                refine wp_region_held_drew (S := fun W => Below (w.alloc (.cells (wdV L) 43)).heap.size (w.alloc (.cells (wdV L) 43)) W) (by kernel_rfl) (show Below _ _ _ from h1.drew) (fun hHeld => ?_)
                refine wpAnyH_take (i := 0) (oi := _) (v := ?_) rfl (by kernel_rfl) (by kernel_rfl) (by kernel_rfl) (fun _ _ _ h => h) (Or.inl ⟨by rfl, ?_⟩) hHeld ?_
                rotate_left
                · intro w hSw; obtain hSw := hSw; go_simp; try with_reducible rfl
                simp only [Act.put, List.getElem_toArray, List.getElem_cons_succ, List.getElem_cons_zero, List.setIfInBounds_toArray, List.set_cons_zero, List.set_cons_succ]
                refine wpAnyH_take (i := 1) (oi := _) (v := ?_) rfl (by kernel_rfl) (by kernel_rfl) (by kernel_rfl) (fun _ _ _ h => h) (Or.inl ⟨by rfl, ?_⟩) hHeld ?_
                rotate_left
                · intro w hSw; obtain hSw := hSw; go_simp; try with_reducible rfl
                simp only [Act.put, List.getElem_toArray, List.getElem_cons_succ, List.getElem_cons_zero, List.setIfInBounds_toArray, List.set_cons_zero, List.set_cons_succ]
                refine wpAnyH_take (i := 2) (oi := _) (v := ?_) rfl (by kernel_rfl) (by kernel_rfl) (by kernel_rfl) (fun _ _ _ h => h) (Or.inl ⟨by rfl, ?_⟩) hHeld ?_
                rotate_left
                · intro w hSw; obtain hSw := hSw; go_simp; try with_reducible rfl
                simp only [Act.put, List.getElem_toArray, List.getElem_cons_succ, List.getElem_cons_zero, List.setIfInBounds_toArray, List.set_cons_zero, List.set_cons_succ]
                refine wpAnyH_take (i := 3) (oi := _) rfl (by kernel_rfl) (by kernel_rfl) (by kernel_rfl) (fun _ _ _ h => h) (yieldsIf_load_row rfl 43 (.tmp 3) rfl w.heap.size rfl 43 (wdV L) (0, 0) _ (fun W hW => HBK W hW) Tryd.underlying43 rfl HIN.out) hHeld ?_
                simp only [Act.put, List.getElem_toArray, List.getElem_cons_succ, List.getElem_cons_zero, List.setIfInBounds_toArray, List.set_cons_zero, List.set_cons_succ]
                refine wpAnyH_take (i := 4) (oi := _) (v := ?_) rfl (by kernel_rfl) (by kernel_rfl) (by kernel_rfl) (fun _ _ _ h => h) (Or.inl ⟨by rfl, ?_⟩) hHeld ?_
                rotate_left
                · intro w hSw; obtain hSw := hSw; go_simp; try with_reducible rfl
                simp only [Act.put, List.getElem_toArray, List.getElem_cons_succ, List.getElem_cons_zero, List.setIfInBounds_toArray, List.set_cons_zero, List.set_cons_succ]
                refine wpAnyH_take (i := 5) (oi := _) (v := ?_) rfl (by kernel_rfl) (by kernel_rfl) (by kernel_rfl) (fun _ _ _ h => h) (Or.inl ⟨by rfl, ?_⟩) hHeld ?_
                rotate_left
                · intro w hSw; obtain hSw := hSw; go_simp; try with_reducible rfl
                simp only [Act.put, List.getElem_toArray, List.getElem_cons_succ, List.getElem_cons_zero, List.setIfInBounds_toArray, List.set_cons_zero, List.set_cons_succ]
                refine wpAnyH_take (i := 8) (oi := _) rfl (by kernel_rfl) (by kernel_rfl) (by kernel_rfl) (fun _ _ _ h => h) (yieldsIf_load_row rfl 43 (.tmp 3) rfl w.heap.size rfl 43 (wdV L) (0, 0) _ (fun W hW => HBK W hW) Tryd.underlying43 rfl HIN.out) hHeld ?_
                simp only [Act.put, List.getElem_toArray, List.getElem_cons_succ, List.getElem_cons_zero, List.setIfInBounds_toArray, List.set_cons_zero, List.set_cons_succ]
                refine wpAnyH_take (i := 9) (oi := _) (v := ?_) rfl (by kernel_rfl) (by kernel_rfl) (by kernel_rfl) (fun _ _ _ h => h) (Or.inl ⟨by rfl, ?_⟩) hHeld ?_
                rotate_left
                · intro w hSw; obtain hSw := hSw; go_simp; try with_reducible rfl
                simp only [Act.put, List.getElem_toArray, List.getElem_cons_succ, List.getElem_cons_zero, List.setIfInBounds_toArray, List.set_cons_zero, List.set_cons_succ]
                refine wpAnyH_take (i := 10) (oi := _) (v := ?_) rfl (by kernel_rfl) (by kernel_rfl) (by kernel_rfl) (fun _ _ _ h => h) (Or.inl ⟨by rfl, ?_⟩) hHeld ?_
                rotate_left
                · intro w hSw; obtain hSw := hSw; go_simp; try with_reducible rfl
                simp only [Act.put, List.getElem_toArray, List.getElem_cons_succ, List.getElem_cons_zero, List.setIfInBounds_toArray, List.set_cons_zero, List.set_cons_succ]
                refine wpAnyH_ready (rs := [6]) (by kernel_rfl) (by simp) (AllReadyH.cons (o := _) rfl (fun K hK => ?_) AllReadyH.nil)
                go_simp
                go_at_call 10
                refine (cy _ (hB0.trans (hHeld.mono hB0s))).mono ?_
                rintro e w5 ⟨A8, k8, rfl, ho8, hb8⟩
                refine hK.out _ _ (hHeld.trans (hb8.mono hHeld.size)) (fun hHeld => ?_)
                clear hK K
                try simp only [Act.put, List.getElem_toArray, List.getElem_cons_succ, List.getElem_cons_zero, List.setIfInBounds_toArray, List.set_cons_zero, List.set_cons_succ]
                refine wpAnyH_ready (rs := [7]) (by kernel_rfl) (by simp) (AllReadyH.cons (o := _) rfl (fun K hK => ?_) AllReadyH.nil)
                go_simp
                go_at_call 21
                refine (d1 _ _ _).mono ?_
                rintro e w6 ⟨rfl, hb8⟩
                refine hK.out _ _ (hHeld.trans (hb8.mono hHeld.size)) (fun hHeld => ?_)
                clear hK K
                try simp only [Act.put, List.getElem_toArray, List.getElem_cons_succ, List.getElem_cons_zero, List.setIfInBounds_toArray, List.set_cons_zero, List.set_cons_succ]
                refine wpAnyH_ready (rs := [11]) (by kernel_rfl) (by simp) (AllReadyH.cons (o := _) rfl (fun K hK => ?_) AllReadyH.nil)
                go_simp
                go_at_call 10
                refine (cy _ (hB0.trans (hHeld.mono hB0s))).mono ?_
                rintro e w5 ⟨A8, k8, rfl, ho8, hb8⟩
                refine hK.out _ _ (hHeld.trans (hb8.mono hHeld.size)) (fun hHeld => ?_)
                clear hK K
                try simp only [Act.put, List.getElem_toArray, List.getElem_cons_succ, List.getElem_cons_zero, List.setIfInBounds_toArray, List.set_cons_zero, List.set_cons_succ]
                refine wpAnyH_ready (rs := [12]) (by kernel_rfl) (by simp) (AllReadyH.cons (o := _) rfl (fun K hK => ?_) AllReadyH.nil)
                go_simp
                go_at_call 25
                refine (d2 _ _ _).mono ?_
                rintro e w6 ⟨rfl, hb8⟩
                refine hK.out _ _ (hHeld.trans (hb8.mono hHeld.size)) (fun hHeld => ?_)
                clear hK K
                try simp only [Act.put, List.getElem_toArray, List.getElem_cons_succ, List.getElem_cons_zero, List.setIfInBounds_toArray, List.set_cons_zero, List.set_cons_succ]
                refine wpAnyH_take (i := 13) (oi := _) (v := ?_) rfl (by kernel_rfl) (by kernel_rfl) (by kernel_rfl) (fun _ _ _ h => h) (Or.inl ⟨by rfl, ?_⟩) hHeld ?_
                rotate_left
                · intro w hSw; obtain hSw := hSw; go_simp; try with_reducible rfl
                simp only [Act.put, List.getElem_toArray, List.getElem_cons_succ, List.getElem_cons_zero, List.setIfInBounds_toArray, List.set_cons_zero, List.set_cons_succ]
                refine wpAnyH_take (i := 14) (oi := _) (v := ?_) rfl (by kernel_rfl) (by kernel_rfl) (by kernel_rfl) (fun _ _ _ h => h) (Or.inl ⟨by rfl, ?_⟩) hHeld ?_
                rotate_left
                · intro w hSw; obtain hSw := hSw; go_simp; try with_reducible rfl
                simp only [Act.put, List.getElem_toArray, List.getElem_cons_succ, List.getElem_cons_zero, List.setIfInBounds_toArray, List.set_cons_zero, List.set_cons_succ]
                refine wpAnyH_done (by kernel_rfl) ?_ _
                have h1 : Below _ _ _ := hHeld
                go_wp2_with fail
                go_roundw
                case rel => exact ⟨k2 + 1, by omega, by go_num, h1⟩
                case measure => simp [intOf]; omega
            · go_wp2_with fail
              subst hQ
              go_wp2_with fail
              go_roundw
              case rel => exact ⟨k + 1, by omega, by go_num, h1⟩
              case measure => simp [intOf]; omega
        · rw [k8, k9] at ct
          rw [k7] at cc
          clear k7 k8 k9
          have g0 := new_cell w 43 (wdV L) (wdV_at e9)
          have hg := fun (W : World) (h : Below (w.alloc (.cells (wdV L) 43)).heap.size (w.alloc (.cells (wdV L) 43)) W) => cell_below' h g0 (by simp)
          have t5 : ¬ (24 < (j : Int) + 1) := by omega
          have t8 : ¬ ((j : Int) + 1 < 1) := by omega
          have t7 : (j : Int) < 24 := by omega
          clear g0 e9
          go_wp2_with (first
            | (refine wpList_load_row rfl 43 (.tmp 3) rfl w.heap.size rfl 43 (wdV L) (0, 0) _ (HBK _ h1) Tryd.underlying43 rfl HIN.out ?_)
            | (go_at_call 19; ((with_reducible refine (ct _).mono ?_); rintro e w2 ⟨rfl, hb2⟩; have h1 := h1.trans (hb2.mono h1.size); have g1 := hg _ h1))
            | (go_at_call 24; ((with_reducible refine (cc _).mono ?_); rintro e w3 ⟨rfl, rfl⟩))
            | fail)
          clear ct cc g10 g1 hg
          go_hide hQ
          go_loopw [67] (fun i wr => ∃ k2 : Nat, k2 ≤ n3 ∧ i = .int .i64 k2 ∧ Below (w.alloc (.cells (wdV L) 43)).heap.size (w.alloc (.cells (wdV L) 43)) wr)
            (fun i _ => n3 - (intOf i).toNat)
          case atStart => exact ⟨0, Nat.zero_le _, rfl, h1⟩
          case round =>
            clear h1
            obtain ⟨k2, hk2, rfl, h1⟩ := hrel
            by_cases hlt2 : k2 < n3
            · obtain ⟨y, p', off', -, rfl, hbl2, g2, hy⟩ := nest_at HR3.out hlt2
              have g20 := cell_below' (hB0.trans (h1.mono hB0s)) g2 hbl2
              obtain ⟨ly, hly⟩ : ∃ ly, y.l.take 8 = ly := ⟨_, rfl⟩
              obtain ⟨m2, hm2⟩ : ∃ m2, ly.length = m2 := ⟨_, rfl⟩
              have hm28 : m2 ≤ 8 := by rw [← hm2, ← hly, List.length_take]; omega
              have cy := fun (W : World) (h : Below w.heap.size w W) => own_a y ((hy.keep h).more h.size) hly hm2
              have d1 := fun (A : Option Addr) (c : Nat) W => fits_v L HL.out ((j : Int) + 1) A m2 c (by omega) W
              have d2 := fun (A : Option Addr) (c : Nat) W => rfits_v L HL.out ((j : Int) + 1) A m2 c (by omega) W
              rw [rfits_eq] at d2
              generalize (widE L ((j : Int) + 1) == 0 && (m2 : Int) == widV L ((j : Int) + 1)) = bz at d1 d2
              have hbz : (bz != bz) = false := by simp
              obtain ⟨yA, yn, yc, yl⟩ := y
              clear hly hy g2 hm2
              cases ht : decide ((k2 : Int) < 6)
              · go_wp2_with fail
                subst hQ
                refine wp_region_held_drew (S := fun W => Below (w.alloc (.cells (wdV L) 43)).heap.size (w.alloc (.cells (wdV L) 43)) W) (by kernel_rfl) (show Below _ _ _ from h1.drew) (fun hHeld => ?_)
                refine wpAnyH_take (i := 0) (oi := _) (v := ?_) rfl (by kernel_rfl) (by kernel_rfl) (by kernel_rfl) (fun _ _ _ h => h) (Or.inl ⟨by rfl, ?_⟩) hHeld ?_
                rotate_left
                · intro w hSw; obtain hSw := hSw; go_simp; try with_reducible rfl
                simp only [Act.put, List.getElem_toArray, List.getElem_cons_succ, List.getElem_cons_zero, List.setIfInBounds_toArray, List.set_cons_zero, List.set_cons_succ]
                refine wpAnyH_take (i := 1) (oi := _) (v := ?_) rfl (by kernel_rfl) (by kernel_rfl) (by kernel_rfl) (fun _ _ _ h => h) (Or.inl ⟨by rfl, ?_⟩) hHeld ?_
                rotate_left
                · intro w hSw; obtain hSw := hSw; go_simp; try with_reducible rfl
                simp only [Act.put, List.getElem_toArray, List.getElem_cons_succ, List.getElem_cons_zero, List.setIfInBounds_toArray, List.set_cons_zero, List.set_cons_succ]
                refine wpAnyH_take (i := 2) (oi := _) (v := ?_) rfl (by kernel_rfl) (by kernel_rfl) (by kernel_rfl) (fun _ _ _ h => h) (Or.inl ⟨by rfl, ?_⟩) hHeld ?_
                rotate_left
                · intro w hSw; obtain hSw := hSw; go_simp; try with_reducible rfl
                simp only [Act.put, List.getElem_toArray, List.getElem_cons_succ, List.getElem_cons_zero, List.setIfInBounds_toArray, List.set_cons_zero, List.set_cons_succ]
                refine wpAnyH_take (i := 3) (oi := _) rfl (by kernel_rfl) (by kernel_rfl) (by kernel_rfl) (fun _ _ _ h => h) (Or.inr ⟨by rfl, rfl⟩) hHeld ?_
                simp only [Act.put, List.getElem_toArray, List.getElem_cons_succ, List.getElem_cons_zero, List.setIfInBounds_toArray, List.set_cons_zero, List.set_cons_succ]
                refine wpAnyH_take (i := 4) (oi := _) rfl (by kernel_rfl) (by kernel_rfl) (by kernel_rfl) (fun _ _ _ h => h) (Or.inr ⟨by rfl, rfl⟩) hHeld ?_
                simp only [Act.put, List.getElem_toArray, List.getElem_cons_succ, List.getElem_cons_zero, List.setIfInBounds_toArray, List.set_cons_zero, List.set_cons_succ]
                refine wpAnyH_take (i := 5) (oi := _) rfl (by kernel_rfl) (by kernel_rfl) (by kernel_rfl) (fun _ _ _ h => h) (Or.inr ⟨by rfl, rfl⟩) hHeld ?_
                simp only [Act.put, List.getElem_toArray, List.getElem_cons_succ, List.getElem_cons_zero, List.setIfInBounds_toArray, List.set_cons_zero, List.set_cons_succ]
                refine wpAnyH_take (i := 6) (oi := _) rfl (by kernel_rfl) (by kernel_rfl) (by kernel_rfl) (fun _ _ _ h => h) (Or.inr ⟨by rfl, rfl⟩) hHeld ?_
                simp only [Act.put, List.getElem_toArray, List.getElem_cons_succ, List.getElem_cons_zero, List.setIfInBounds_toArray, List.set_cons_zero, List.set_cons_succ]
                refine wpAnyH_take (i := 7) (oi := _) rfl (by kernel_rfl) (by kernel_rfl) (by kernel_rfl) (fun _ _ _ h => h) (Or.inr ⟨by rfl, rfl⟩) hHeld ?_
                simp only [Act.put, List.getElem_toArray, List.getElem_cons_succ, List.getElem_cons_zero, List.setIfInBounds_toArray, List.set_cons_zero, List.set_cons_succ]
                refine wpAnyH_take (i := 8) (oi := _) rfl (by kernel_rfl) (by kernel_rfl) (by kernel_rfl) (fun _ _ _ h => h) (Or.inr ⟨by rfl, rfl⟩) hHeld ?_
                simp only [Act.put, List.getElem_toArray, List.getElem_cons_succ, List.getElem_cons_zero, List.setIfInBounds_toArray, List.set_cons_zero, List.set_cons_succ]
                refine wpAnyH_take (i := 9) (oi := _) rfl (by kernel_rfl) (by kernel_rfl) (by kernel_rfl) (fun _ _ _ h => h) (Or.inr ⟨by rfl, rfl⟩) hHeld ?_
                simp only [Act.put, List.getElem_toArray, List.getElem_cons_succ, List.getElem_cons_zero, List.setIfInBounds_toArray, List.set_cons_zero, List.set_cons_succ]
                refine wpAnyH_take (i := 10) (oi := _) rfl (by kernel_rfl) (by kernel_rfl) (by kernel_rfl) (fun _ _ _ h => h) (Or.inr ⟨by rfl, rfl⟩) hHeld ?_
                simp only [Act.put, List.getElem_toArray, List.getElem_cons_succ, List.getElem_cons_zero, List.setIfInBounds_toArray, List.set_cons_zero, List.set_cons_succ]
                refine wpAnyH_take (i := 11) (oi := _) rfl (by kernel_rfl) (by kernel_rfl) (by kernel_rfl) (fun _ _ _ h => h) (Or.inr ⟨by rfl, rfl⟩) hHeld ?_
                simp only [Act.put, List.getElem_toArray, List.getElem_cons_succ, List.getElem_cons_zero, List.setIfInBounds_toArray, List.set_cons_zero, List.set_cons_succ]
                refine wpAnyH_take (i := 12) (oi := _) rfl (by kernel_rfl) (by kernel_rfl) (by kernel_rfl) (fun _ _ _ h => h) (Or.inr ⟨by rfl, rfl⟩) hHeld ?_
                simp only [Act.put, List.getElem_toArray, List.getElem_cons_succ, List.getElem_cons_zero, List.setIfInBounds_toArray, List.set_cons_zero, List.set_cons_succ]
                refine wpAnyH_take (i := 13) (oi := _) rfl (by kernel_rfl) (by kernel_rfl) (by kernel_rfl) (fun _ _ _ h => h) (Or.inr ⟨by rfl, rfl⟩) hHeld ?_
                simp only [Act.put, List.getElem_toArray, List.getElem_cons_succ, List.getElem_cons_zero, List.setIfInBounds_toArray, List.set_cons_zero, List.set_cons_succ]
                refine wpAnyH_take (i := 14) (oi := _) (v := ?_) rfl (by kernel_rfl) (by kernel_rfl) (by kernel_rfl) (fun _ _ _ h => h) (Or.inl ⟨by rfl, ?_⟩) hHeld ?_
                rotate_left
                · intro w hSw; obtain hSw := hSw; go_simp; try with_reducible rfl
                simp only [Act.put, List.getElem_toArray, List.getElem_cons_succ, List.getElem_cons_zero, List.setIfInBounds_toArray, List.set_cons_zero, List.set_cons_succ]
                refine wpAnyH_done (by kernel_rfl) ?_ _
                have h1 : Below _ _ _ := hHeld
                go_wp2_with fail
                go_roundw
                case rel => exact ⟨k2 + 1, by omega, by go_num, h1⟩
                case measure => simp [intOf]; omega
              · go_wp2_with fail
                subst hQ
                refine wp_region_held_drew (S := fun W => Below (w.alloc (.cells (wdV L) 43)).heap.size (w.alloc (.cells (wdV L) 43)) W) (by kernel_rfl) (show Below _ _ _ from h1.drew) (fun hHeld => ?_)
                refine wpAnyH_take (i := 0) (oi := _) (v := ?_) rfl (by kernel_rfl) (by kernel_rfl) (by kernel_rfl) (fun _ _ _ h => h) (Or.inl ⟨by rfl, ?_⟩) hHeld ?_
                rotate_left
                · intro w hSw; obtain hSw := hSw; go_simp; try with_reducible rfl
                simp only [Act.put, List.getElem_toArray, List.getElem_cons_succ, List.getElem_cons_zero, List.setIfInBounds_toArray, List.set_cons_zero, List.set_cons_succ]
                refine wpAnyH_take (i := 1) (oi := _) (v := ?_) rfl (by kernel_rfl) (by kernel_rfl) (by kernel_rfl) (fun _ _ _ h => h) (Or.inl ⟨by rfl, ?_⟩) hHeld ?_
                rotate_left
                · intro w hSw; obtain hSw := hSw; go_simp; try with_reducible rfl
                simp only [Act.put, List.getElem_toArray, List.getElem_cons_succ, List.getElem_cons_zero, List.setIfInBounds_toArray, List.set_cons_zero, List.set_cons_succ]
                refine wpAnyH_take (i := 2) (oi := _) (v := ?_) rfl (by kernel_rfl) (by kernel_rfl) (by kernel_rfl) (fun _ _ _ h => h) (Or.inl ⟨by rfl, ?_⟩) hHeld ?_
                rotate_left
                · intro w hSw; obtain hSw := hSw; go_simp; try with_reducible rfl
                simp only [Act.put, List.getElem_toArray, List.getElem_cons_succ, List.getElem_cons_zero, List.setIfInBounds_toArray, List.set_cons_zero, List.set_cons_succ]
                refine wpAnyH_take (i := 3) (oi := _) rfl (by kernel_rfl) (by kernel_rfl) (by kernel_rfl) (fun _ _ _ h => h) (yieldsIf_load_row rfl 43 (.tmp 3) rfl w.heap.size rfl 43 (wdV L) (0, 0) _ (fun W hW => HBK W hW) Tryd.underlying43 rfl HIN.out) hHeld ?_
                simp only [Act.put, List.getElem_toArray, List.getElem_cons_succ, List.getElem_cons_zero, List.setIfInBounds_toArray, List.set_cons_zero, List.set_cons_succ]
                refine wpAnyH_take (i := 4) (oi := _) (v := ?_) rfl (by kernel_rfl) (by kernel_rfl) (by kernel_rfl) (fun _ _ _ h => h) (Or.inl ⟨by rfl, ?_⟩) hHeld ?_
                rotate_left
                · intro w hSw; obtain hSw := hSw; go_simp; try with_reducible rfl
                simp only [Act.put, List.getElem_toArray, List.getElem_cons_succ, List.getElem_cons_zero, List.setIfInBounds_toArray, List.set_cons_zero, List.set_cons_succ]
                refine wpAnyH_take (i := 5) (oi := _) (v := ?_) rfl (by kernel_rfl) (by kernel_rfl) (by kernel_rfl) (fun _ _ _ h => h) (Or.inl ⟨by rfl, ?_⟩) hHeld ?_
                rotate_left
                · intro w hSw; obtain hSw := hSw; go_simp; try with_reducible rfl
                simp only [Act.put, List.getElem_toArray, List.getElem_cons_succ, List.getElem_cons_zero, List.setIfInBounds_toArray, List.set_cons_zero, List.set_cons_succ]
                refine wpAnyH_take (i := 8) (oi := _) rfl (by kernel_rfl) (by kernel_rfl) (by kernel_rfl) (fun _ _ _ h => h) (yieldsIf_load_row rfl 43 (.tmp 3) rfl w.heap.size rfl 43 (wdV L) (0, 0) _ (fun W hW => HBK W hW) Tryd.underlying43 rfl HIN.out) hHeld ?_
                simp only [Act.put, List.getElem_toArray, List.getElem_cons_succ, List.getElem_cons_zero, List.setIfInBounds_toArray, List.set_cons_zero, List.set_cons_succ]
                refine wpAnyH_take (i := 9) (oi := _) (v := ?_) rfl (by kernel_rfl) (by kernel_rfl) (by kernel_rfl) (fun _ _ _ h => h) (Or.inl ⟨by rfl, ?_⟩) hHeld ?_
                rotate_left
                · intro w hSw; obtain hSw := hSw; go_simp; try with_reducible rfl
                simp only [Act.put, List.getElem_toArray, List.getElem_cons_succ, List.getElem_cons_zero, List.setIfInBounds_toArray, List.set_cons_zero, List.set_cons_succ]
                refine wpAnyH_take (i := 10) (oi := _) (v := ?_) rfl (by kernel_rfl) (by kernel_rfl) (by kernel_rfl) (fun _ _ _ h => h) (Or.inl ⟨by rfl, ?_⟩) hHeld ?_
                rotate_left
                · intro w hSw; obtain hSw := hSw; go_simp; try with_reducible rfl
                simp only [Act.put, List.getElem_toArray, List.getElem_cons_succ, List.getElem_cons_zero, List.setIfInBounds_toArray, List.set_cons_zero, List.set_cons_succ]
                refine wpAnyH_ready (rs := [6]) (by kernel_rfl) (by simp) (AllReadyH.cons (o := _) rfl (fun K hK => ?_) AllReadyH.nil)
                go_simp
                go_at_call 10
                refine (cy _ (hB0.trans (hHeld.mono hB0s))).mono ?_
                rintro e w5 ⟨A8, k8, rfl, ho8, hb8⟩
                refine hK.out _ _ (hHeld.trans (hb8.mono hHeld.size)) (fun hHeld => ?_)
                clear hK K
                try simp only [Act.put, List.getElem_toArray, List.getElem_cons_succ, List.getElem_cons_zero, List.setIfInBounds_toArray, List.set_cons_zero, List.set_cons_succ]
                refine wpAnyH_ready (rs := [7]) (by kernel_rfl) (by simp) (AllReadyH.cons (o := _) rfl (fun K hK => ?_) AllReadyH.nil)
                go_simp
                go_at_call 21
                refine (d1 _ _ _).mono ?_
                rintro e w6 ⟨rfl, hb8⟩
                refine hK.out _ _ (hHeld.trans (hb8.mono hHeld.size)) (fun hHeld => ?_)
                clear hK K
                try simp only [Act.put, List.getElem_toArray, List.getElem_cons_succ, List.getElem_cons_zero, List.setIfInBounds_toArray, List.set_cons_zero, List.set_cons_succ]
                refine wpAnyH_ready (rs := [11]) (by kernel_rfl) (by simp) (AllReadyH.cons (o := _) rfl (fun K hK => ?_) AllReadyH.nil)
                go_simp
                go_at_call 10
                refine (cy _ (hB0.trans (hHeld.mono hB0s))).mono ?_
                rintro e w5 ⟨A8, k8, rfl, ho8, hb8⟩
                refine hK.out _ _ (hHeld.trans (hb8.mono hHeld.size)) (fun hHeld => ?_)
                clear hK K
                try simp only [Act.put, List.getElem_toArray, List.getElem_cons_succ, List.getElem_cons_zero, List.setIfInBounds_toArray, List.set_cons_zero, List.set_cons_succ]
                refine wpAnyH_ready (rs := [12]) (by kernel_rfl) (by simp) (AllReadyH.cons (o := _) rfl (fun K hK => ?_) AllReadyH.nil)
                go_simp
                go_at_call 25
                refine (d2 _ _ _).mono ?_
                rintro e w6 ⟨rfl, hb8⟩
                refine hK.out _ _ (hHeld.trans (hb8.mono hHeld.size)) (fun hHeld => ?_)
                clear hK K
                try simp only [Act.put, List.getElem_toArray, List.getElem_cons_succ, List.getElem_cons_zero, List.setIfInBounds_toArray, List.set_cons_zero, List.set_cons_succ]
                refine wpAnyH_take (i := 13) (oi := _) (v := ?_) rfl (by kernel_rfl) (by kernel_rfl) (by kernel_rfl) (fun _ _ _ h => h) (Or.inl ⟨by rfl, ?_⟩) hHeld ?_
                rotate_left
                · intro w hSw; obtain hSw := hSw; go_simp; try with_reducible rfl
                simp only [Act.put, List.getElem_toArray, List.getElem_cons_succ, List.getElem_cons_zero, List.setIfInBounds_toArray, List.set_cons_zero, List.set_cons_succ]
                refine wpAnyH_take (i := 14) (oi := _) (v := ?_) rfl (by kernel_rfl) (by kernel_rfl) (by kernel_rfl) (fun _ _ _ h => h) (Or.inl ⟨by rfl, ?_⟩) hHeld ?_
                rotate_left
                · intro w hSw; obtain hSw := hSw; go_simp; try with_reducible rfl
                simp only [Act.put, List.getElem_toArray, List.getElem_cons_succ, List.getElem_cons_zero, List.setIfInBounds_toArray, List.set_cons_zero, List.set_cons_succ]
                refine wpAnyH_done (by kernel_rfl) ?_ _
                have h1 : Below _ _ _ := hHeld
                go_wp2_with fail
                go_roundw
                case rel => exact ⟨k2 + 1, by omega, by go_num, h1⟩
                case measure => simp [intOf]; omega
            · go_wp2_with fail
              subst hQ
              go_wp2_with fail
              go_roundw
              case rel => exact ⟨k + 1, by omega, by go_num, h1⟩
              case measure => simp [intOf]; omega
      case inr.inl =>
        obtain ⟨rfl, hlt⟩ := hlt
        have hl2 : l2.length = n2 := by have := HR2.out.1; rw [List.length_map] at this; omega
        have e1 := List.getElem?_eq_getElem (l := l2) (i := 8) (by omega)
        generalize l2[8]'(by omega) = z at e1
        obtain ⟨p, off, rfl, hbl, g⟩ := row_cell HR2.out (k := 8) (v := .int .i64 z) (by rw [List.getElem?_map, e1]; rfl)
        have g10 := cell_below' (hB0.trans (h1.mono hB0s)) g hbl
        clear e1 g hl2
        go_wp2_with fail
        try rw [Exit.noGoto_ret]
        go_ret
        exact ⟨rfl, hB0.trans (h1.mono hB0s)⟩
      case inl =>
        subst hkn
        go_wp2_with fail
        try rw [Exit.noGoto_ret]
        go_ret
        exact ⟨rfl, hB0.trans (h1.mono hB0s)⟩
theorem widths_row (L : List Int) (hL : L.length = 24) (A2 : Option Addr) (n2 c2 : Nat) (l2 : List Int) (hc2 : n2 ≤ c2) (hn2 : c2 * 8 ≤ 140737488351232) (hw : ∀ x ∈ l2, (Lit.int .i64 x).wf = true)
    (A3 : Option Addr) (n3 c3 : Nat) (F : List RowA) (hn3 : n3 ≤ maxLen) (w : World) (hE : Env w)
    (hR2 : Reads w w.heap.size 1 A2 n2 (l2.map (Value.int .i64))) (hR3 : RV .u64 w w.heap.size A3 n3 F) :
    Calls Tryd.prog 6 #[.agg (wdV L), .slice A2 n2 c2, .slice A3 n3 c3] w fun e w' => e = .returned (.bool true) ∧ Below w.heap.size w w' :=
  widths_law L hL A2 n2 c2 l2 A3 n3 c3 F w hE (by omega) hn3 hR2 hR3
end Go.Proofs.YtcfpnnkohjochaaDoor
