/- What is proved: the document's Right of tables. -/
import Derived.Test.YtbcbknajhdaneaaTaJ
namespace Go.Proofs.Ytbcbknajhdaneaa
open Go.RowKit
set_option linter.unusedVariables false
set_option linter.unusedSimpArgs false
theorem entOk_false {l : List Int} {k n : Nat} (h : entOk l k = false) (hk : k ≤ n) : entOk l n = false := by
  induction n with
  | zero => have : k = 0 := by omega
            subst this; exact h
  | succ n ih =>
    rcases Nat.lt_or_ge n k with h2 | h2
    · have : k = n + 1 := by omega
      subst this; exact h
    · show (entOk l n && _) = false
      rw [ih h2]; rfl
theorem entOk_step {l : List Int} {k : Nat} {x : Int} (h : l[k]? = some x) : entOk l (k + 1) = (entOk l k && (!(idx x == 0) && !hasI (l.take k) (idx x))) := by
  show (entOk l k && _) = _
  rw [h]
/-- a column within a table of so many rows -/
def colT (x : Col) (m : Nat) : Bool := colB x.W x.R x.n && x.R == (m : Int)
theorem tabB_eq (t : Tab) : tabB t = (tyR t.ty && (decide (t.F.length = t.ty.length) && (decide (t.es.length ≤ 1048578) && (t.F.all (fun c => colT c t.es.length) && entOk t.es t.es.length)))) := rfl
theorem TabOk.len {w : World} {B : Nat} {t : Tab} (h : TabOk w B t) : t.ty.length = t.Tn ∧ t.F.length = t.Cn ∧ t.es.length = t.En := by
  have h1 := h.ty.1
  have h2 := h.cs.1
  have h3 := h.es.1
  rw [ids_len] at h1 h3
  rw [cols_len] at h2
  omega
theorem all_take {F : List Col} {m k : Nat} {x : Col} (h : F[k]? = some x) (hq : (F.take k).all (fun c => colT c m) = true) : (F.take (k + 1)).all (fun c => colT c m) = colT x m := by
  rw [take_snoc h, List.all_append, hq]; simp
theorem all_no {F : List Col} {m k : Nat} {x : Col} (h : F[k]? = some x) (hx : colT x m = false) : F.all (fun c => colT c m) = false := by
  rw [List.all_eq_false]
  exact ⟨x, List.mem_of_getElem? h, by simp [hx]⟩
set_option maxRecDepth 100000 in
set_option maxHeartbeats 8000000 in
theorem rtab_any (t : Tab) (w : World) (h : TabOk w w.heap.size t) (hs : t.Tn ≤ 281474976710656 ∧ t.Cn ≤ 281474976710656 ∧ t.En ≤ 281474976710656) :
    Calls Try.prog 17 #[t.V] w fun e w' => e = .returned (.bool (tabB t)) ∧ Below w.heap.size w w' := by
  obtain ⟨l1, l2, l3⟩ := h.len
  rw [tabB_eq, l1, l2, l3]
  obtain ⟨TA, Tn, Tc, ty, CA, Cn, Cc, F, EA, En, Ec, es⟩ := t
  obtain ⟨s1, s2, s3⟩ := hs
  simp only at l1 l2 l3 s1 s2 s3 ⊢
  have hB := (Below.refl w.heap.size w).alloc (Nat.le_refl _) (.cells #[.slice TA Tn Tc, .slice CA Cn Cc, .slice EA En Ec] 25)
  have ct := fun (W : World) (hb : Below w.heap.size w W) => rtype_any TA Tn Tc ty W ((h.ty.below hb).more hb.size) h.tyw s1
  have y0 := new_cell w 25 #[.slice TA Tn Tc, .slice CA Cn Cc, .slice EA En Ec] (k := 0) rfl
  have y1 := new_cell w 25 #[.slice TA Tn Tc, .slice CA Cn Cc, .slice EA En Ec] (k := 1) rfl
  have y2 := new_cell w 25 #[.slice TA Tn Tc, .slice CA Cn Cc, .slice EA En Ec] (k := 2) rfl
  have HO := Lib.hid h
  have L1 := Lib.hid l1
  have L2 := Lib.hid l2
  have L3 := Lib.hid l3
  clear h l1 l2 l3
  unfold Tab.V
  cases k1 : tyR ty
  · rw [k1] at ct
    go_enter Try.func17, Try.ntmps17
    go_wp2_with (first
      | (go_at_call 44; (with_reducible refine (ct _ hB).mono ?_); rintro e w2 ⟨rfl, rfl⟩)
      | fail)
    go_ret
    exact ⟨rfl, hB⟩
  · rw [k1] at ct
    by_cases k2 : Cn = Tn
    · by_cases k3 : En ≤ 1048578
      · rw [decide_eq_true k2, decide_eq_true k3, Bool.true_and, Bool.true_and, Bool.true_and]
        subst k2
        have t2 : ((Cn : Int) != (Cn : Int)) = false := by simp
        have t3 : decide (1048578 < (En : Int)) = false := decide_eq_false (by omega)
        clear k1
        go_enter Try.func17, Try.ntmps17
        go_wp2_with (first
          | (go_at_call 44; (with_reducible refine (ct _ hB).mono ?_); rintro e w2 ⟨rfl, rfl⟩)
          | fail)
        clear ct t2 t3
        go_loopw [29] (fun i wr => ∃ k : Nat, k ≤ Cn ∧ i = .int .i64 k ∧ (F.take k).all (fun c => colT c En) = true ∧ Below (w.alloc (.cells #[.slice TA Cn Tc, .slice CA Cn Cc, .slice EA En Ec] 25)).heap.size (w.alloc (.cells #[.slice TA Cn Tc, .slice CA Cn Cc, .slice EA En Ec] 25)) wr)
          (fun i _ => Cn - (intOf i).toNat)
        case atStart => exact ⟨0, Nat.zero_le _, rfl, rfl, Below.refl _ _⟩
        case round =>
          obtain ⟨k, hk, rfl, hq, hb⟩ := hrel
          have x2 := cell_below' hb y2 (by simp)
          have z2 := fun o : Obj => cell_below' (hb.alloc hb.size o) y2 (by simp)
          have zz2 := fun (W : World) (h : Below (w.alloc (.cells #[.slice TA Cn Tc, .slice CA Cn Cc, .slice EA En Ec] 25)).heap.size (w.alloc (.cells #[.slice TA Cn Tc, .slice CA Cn Cc, .slice EA En Ec] 25)) W) => cell_below' h y2 (by simp)
          clear y0 y1 y2
          by_cases hlt : k < Cn
          · have e1 := List.getElem?_eq_getElem (l := F) (i := k) (by have := L2.out; omega)
            generalize F[k]'(by have := L2.out; omega) = x at e1
            obtain ⟨b, off, rfl, hbl, g⟩ := cols_cells HO.out.cs e1
            obtain ⟨g0, g1, g2⟩ := (g.below (hB.trans (hb.mono hB.size)) hbl)
            have hxo := HO.out.csok x (List.mem_of_getElem? e1)
            have cc := fun (W : World) => rcol_any x.W x.R x.A x.n x.c W (Nat.le_trans hxo.2.1 hxo.2.2.1)
            have hno := fun h => Lib.hid (all_no (m := En) e1 h)
            have hyes := Lib.hid (all_take e1 hq)
            unfold colV at cc
            obtain ⟨xW, xR, xA, xn, xc, xl⟩ := x
            simp only at g0 g1 g2 cc
            clear hq e1 g hxo
            cases hcb : colB xW xR xn
            · have hF := hno (by unfold colT; simp only; rw [hcb]; rfl)
              rw [hcb] at cc
              clear hno hyes hcb
              go_wp2_with (first
                | (go_at_call 71; (with_reducible refine (cc _).mono ?_); rintro e w2 ⟨rfl, hb2⟩; have hb3 := (hb.alloc hb.size (.cells #[.int .i64 xW, .int .i64 xR, .slice xA xn xc] 68)).trans (hb2.mono (Nat.le_trans hb.size (by simp))))
                | fail)
              try rw [Exit.noGoto_ret]
              go_ret
              exact ⟨by rw [hF.out]; rfl, hB.trans (hb3.mono hB.size)⟩
            · rw [hcb] at cc
              cases hre : (xR == (En : Int))
              · have hne : (xR != (En : Int)) = true := by rw [bne, hre]; rfl
                have hF := hno (by unfold colT; simp only; rw [hcb, hre] <;> rfl)
                clear hno hyes hcb hre
                go_wp2_with (first
                  | (go_at_call 71; ((with_reducible refine (cc _).mono ?_); rintro e w2 ⟨rfl, hb2⟩; have hb3 := (hb.alloc hb.size (.cells #[.int .i64 xW, .int .i64 xR, .slice xA xn xc] 68)).trans (hb2.mono (Nat.le_trans hb.size (by simp))); have q1 := cell_below' hb2 (new_cell wr 68 #[.int .i64 xW, .int .i64 xR, .slice xA xn xc] (k := 1) rfl) (by simp); have q2 := zz2 _ hb3))
                  | fail)
                try rw [Exit.noGoto_ret]
                go_ret
                exact ⟨by rw [hF.out]; rfl, hB.trans (hb3.mono hB.size)⟩
              · have hne : (xR != (En : Int)) = false := by rw [bne, hre]; rfl
                have hF := Lib.hid (hyes.out.trans (by unfold colT; simp only; rw [hcb, hre] <;> rfl))
                clear hno hyes hcb hre
                go_wp2_with (first
                  | (go_at_call 71; ((with_reducible refine (cc _).mono ?_); rintro e w2 ⟨rfl, hb2⟩; have hb3 := (hb.alloc hb.size (.cells #[.int .i64 xW, .int .i64 xR, .slice xA xn xc] 68)).trans (hb2.mono (Nat.le_trans hb.size (by simp))); have q1 := cell_below' hb2 (new_cell wr 68 #[.int .i64 xW, .int .i64 xR, .slice xA xn xc] (k := 1) rfl) (by simp); have q2 := zz2 _ hb3))
                  | fail)
                go_roundw
                case rel => exact ⟨k + 1, by omega, by go_num, hF.out, hb3⟩
                case measure => simp [intOf]; omega
          · have hkn : k = Cn := by omega
            subst hkn
            rw [List.take_of_length_le (by have := L2.out; omega)] at hq
            have HQ := Lib.hid hq
            clear hq hlt
            have YY := Lib.hid zz2
            clear zz2 z2
            go_wp2_with fail
            go_loopw [48] (fun i wr => ∃ j : Nat, j ≤ En ∧ i = .int .i64 j ∧ entOk es j = true ∧ Below (w.alloc (.cells #[.slice TA k Tc, .slice CA k Cc, .slice EA En Ec] 25)).heap.size (w.alloc (.cells #[.slice TA k Tc, .slice CA k Cc, .slice EA En Ec] 25)) wr)
              (fun i _ => En - (intOf i).toNat)
            case atStart => exact ⟨0, Nat.zero_le _, rfl, rfl, hb⟩
            case round =>
              obtain ⟨k2, hk2, rfl, hq2, hb2⟩ := hrel
              have q2 := YY.out _ hb2
              by_cases hlt : k2 < En
              · have e1 := List.getElem?_eq_getElem (l := es) (i := k2) (by have := L3.out; omega)
                generalize es[k2]'(by have := L3.out; omega) = x at e1
                have hHR := ((HO.out.es.below hB).more hB.size).below hb2
                obtain ⟨b, off, rfl, hbl, g⟩ := ids_cell hHR e1
                have hHR := hHR.more hb2.size
                have hec := HO.out.esc
                simp only at hec
                have ci := fun W => ridx_any x (HO.out.esw x (List.mem_of_getElem? e1)) W
                have ch := fun W (hR : Reads W W.heap.size 1 (some ⟨b, off, none⟩) k2 (ids (es.take k2))) => rhas_any (some ⟨b, off, none⟩) k2 Ec (es.take k2) (idx x) W hR (fun y hy => HO.out.esw y (List.mem_of_mem_take hy)) (by omega)
                have HRK := Lib.hid (hHR.pre1 (show k2 ≤ En by omega))
                have hno := fun h => Lib.hid (show entOk es En = false from entOk_false (k := k2 + 1) ((entOk_step e1).trans (by rw [hq2, Bool.true_and]; exact h)) hlt)
                have hyes := fun h => Lib.hid (show entOk es (k2 + 1) = true from (entOk_step e1).trans (by rw [hq2, Bool.true_and]; exact h))
                have HEC := Lib.hid hec
                have i1 : (k2 : Int) ≤ (Ec : Int) := by omega
                clear hq2 e1 hHR hec
                generalize idx x = y at *
                generalize hasI (es.take k2) y = hb4 at *
                cases hx0 : (y == 0)
                · cases hb4
                  · have hF := hyes (by rw [hx0]; rfl)
                    clear hno hyes
                    go_wp2_with fail
                    go_quiet ((first | (go_at_call 18; exact Calls.quiet_of_same ((ci _).mono fun _ _ h => ⟨h.1, h.2.symm⟩)) | (go_at_call 19; exact Calls.quiet_of_same ((ch _ (by first | exact HRK.out | exact HRK.out.drewN _ | exact HRK.out.drew)).mono fun _ _ h => ⟨h.1, h.2.symm⟩)) | fail))
                    go_wp2_with fail
                    go_roundw
                    case rel => exact ⟨k2 + 1, by omega, by go_num, hF.out, by first | exact hb2 | exact below_drewN' hb2 _⟩
                    case measure => simp [intOf]; omega
                  · have hF := hno (by rw [hx0]; rfl)
                    clear hno hyes
                    go_wp2_with fail
                    go_quiet ((first | (go_at_call 18; exact Calls.quiet_of_same ((ci _).mono fun _ _ h => ⟨h.1, h.2.symm⟩)) | (go_at_call 19; exact Calls.quiet_of_same ((ch _ (by first | exact HRK.out | exact HRK.out.drewN _ | exact HRK.out.drew)).mono fun _ _ h => ⟨h.1, h.2.symm⟩)) | fail))
                    go_wp2_with fail
                    try rw [Exit.noGoto_ret]
                    go_ret
                    exact ⟨by rw [hF.out, Bool.and_false]; rfl, hB.trans (Below.mono (by first | exact hb2 | exact below_drewN' hb2 _) hB.size)⟩
                · have hF := hno (by rw [hx0]; rfl)
                  clear hno hyes ch
                  go_wp2_with fail
                  go_quiet ((first | (go_at_call 18; exact Calls.quiet_of_same ((ci _).mono fun _ _ h => ⟨h.1, h.2.symm⟩)) | fail))
                  go_wp2_with fail
                  try rw [Exit.noGoto_ret]
                  go_ret
                  exact ⟨by rw [hF.out, Bool.and_false]; rfl, hB.trans (Below.mono (by first | exact hb2 | exact below_drewN' hb2 _) hB.size)⟩
              · have hkn : k2 = En := by omega
                subst hkn
                have HF := Lib.hid hq2
                clear hq2
                go_wp2_with fail
                try rw [Exit.noGoto_ret]
                go_ret
                exact ⟨by rw [HQ.out, HF.out]; rfl, hB.trans (hb2.mono hB.size)⟩
      · rw [decide_eq_true k2, decide_eq_false k3]
        subst k2
        have t2 : ((Cn : Int) != (Cn : Int)) = false := by simp
        have t3 : decide (1048578 < (En : Int)) = true := decide_eq_true (by omega)
        clear k1
        go_enter Try.func17, Try.ntmps17
        go_wp2_with (first
          | (go_at_call 44; (with_reducible refine (ct _ hB).mono ?_); rintro e w2 ⟨rfl, rfl⟩)
          | fail)
        go_ret
        exact ⟨rfl, hB⟩
    · rw [decide_eq_false k2]
      have t2 : ((Cn : Int) != (Tn : Int)) = true := by simp; omega
      clear k1 k2
      go_enter Try.func17, Try.ntmps17
      go_wp2_with (first
        | (go_at_call 44; (with_reducible refine (ct _ hB).mono ?_); rintro e w2 ⟨rfl, rfl⟩)
        | fail)
      go_ret
      exact ⟨rfl, hB⟩
end Go.Proofs.Ytbcbknajhdaneaa
