/- What is proved: the walk of the law TableGoes. -/
import Derived.Test.YtbcbknajhdaneaaTj1
import Derived.Deep.RegionLawGrows
import Derived.Deep.CutRange
namespace Go.Proofs.Ytbcbknajhdaneaa
open Go.RowKit Go.Deep
set_option linter.unusedVariables false
set_option linter.unusedSimpArgs false
/-- what was wanted of Swap stands in its block -/
def WantS (mv er : Int) (pE : PT) (W6 : World) (s15 s16 : Value) (wx : World) : Prop := s15 = .int .u64 mv ∧ WantR er pE W6 s16 wx
theorem blk_cells1 {w : World} {g : Nat} {t : TypeId} {v : Value} (h : Blk w g t #[v]) : ∀ j u, [v][j]? = some u → w.cell? ((⟨g, 0, none⟩ : Addr).add j) = some u := fun j x hx => by
  rw [add_none, Nat.zero_add, h.cell]
  simpa using hx
theorem ids_all {w : World} {B n : Nat} {A : Option Addr} {l : List Int} (h : Reads w B 1 A n (ids l)) : ∀ b, A = some b → ∀ j u, (ids l)[j]? = some u → w.cell? (b.add j) = some u := fun b hA j u hu => by
  have h1 := h.1
  have h2 := (List.getElem?_eq_some_iff.1 hu).1
  obtain ⟨a, e, _, h3⟩ := h.2 (by omega)
  rw [hA] at e
  injection e with e
  rw [e]
  exact h3 j u hu
theorem ids_none {w : World} {B n : Nat} {A : Option Addr} {l : List Int} (h : Reads w B 1 A n (ids l)) : A = none → n = 0 ∧ n = 0 := fun hA => by
  rcases Nat.eq_zero_or_pos n with h0 | h0
  · exact ⟨h0, h0⟩
  · obtain ⟨a, e, _⟩ := h.2 h0
    rw [hA] at e; cases e
set_option maxRecDepth 100000 in
set_option maxHeartbeats 32000000 in
theorem goes_walk (t : Tab) (RA : Option Addr) (rn rc : Nat) (rs : List Int) (v : Rw) (w : World) (h : TabOk w w.heap.size t) (hRr : Reads w w.heap.size 1 RA rn (ins rs)) (hrn : rn ≤ 281474976710656) (hv : RwOk w w.heap.size v) :
    Calls Try.prog 7 #[t.V, .slice RA rn rc, .slice v.A v.n v.c] w fun en w' => en = .returned (.bool true) ∧ Below w.heap.size w w' := by
  have hbx := (Below.refl w.heap.size w).alloc (Nat.le_refl _) (.cells #[.slice t.TA t.Tn t.Tc, .slice t.CA t.Cn t.Cc, .slice t.EA t.En t.Ec] 25)
  have kx := Blk.new w 25 #[.slice t.TA t.Tn t.Tc, .slice t.CA t.Cn t.Cc, .slice t.EA t.En t.Ec]
  have cown := fun (W : World) (hb : Below w.heap.size w W) => own_any t W ((h.keep hb).more hb.size)
  have hpo := psm_own t.p
  have hqo := own_q t.p
  obtain ⟨q, hq, hvR, hq6, hql⟩ := cut_q 6 hv.1
  have ccl := fun (W : World) (hb : Below w.heap.size w W) => clone_v v.A q v.c (v.l.take 6) W ((hvR.below hb).more hb.size) (by omega)
  have hwl : ∀ y ∈ v.l.take 6, Word y := fun y hy => hv.2.2.2 y (List.mem_of_mem_take hy)
  have eq6 : (if (6 : Int) < (v.n : Int) then (6 : Int) else (v.n : Int)) = (q : Int) := by split <;> omega
  have f6 : (q : Int) ≤ (v.c : Int) := by have := hv.2.1; omega
  unfold OwnT at cown
  unfold OwnU at ccl
  rw [hql] at ccl
  generalize v.l.take 6 = l0 at *
  generalize ownP t.p = p0 at *
  generalize hpost : (fun en w' => en = Ending.returned (.bool true) ∧ Below w.heap.size w w') = POST
  have HPO := Lib.hid hpost
  have HP0 := Lib.hid hpo
  have HQ0 := Lib.hid hqo
  have HKX := Lib.hid kx
  have HRR := Lib.hid hRr
  have HWL := Lib.hid hwl
  have HRS := Lib.hid (show rs.length = rn from by have h1 := hRr.1; rw [ins_len] at h1; omega)
  have HQL := Lib.hid hql
  unfold Tab.V at cown ⊢
  obtain ⟨TA, Tn, Tc, ty, CA, Cn, Cc, Fc, EA, En, Ec, es⟩ := t
  simp only at *
  clear hpost hpo hqo kx h hRr hwl hv hq hvR hql
  go_enter Try.func7, Try.ntmps7
  go_upto_region 4 with (first
    | (go_at_call 13; ((with_reducible refine (wakes_any _).mono ?_); rintro en w1 ⟨rfl, hb1⟩; have hbw1 := hbx.trans (hb1.mono hbx.size); obtain ⟨⟨x0, x1, x2⟩, _⟩ := blk_cells3 (blk_below HKX.out hb1)))
    | (go_at_call 14; ((with_reducible refine (cown _ hbw1).mono ?_); rintro en w2 ⟨t0, rfl, hp0, hf0, hb2⟩; have hbw2 := hbw1.trans (hb2.mono hbw1.size); (try unfold Tab.V)))
    | fail)
  obtain ⟨W4, hW4⟩ : ∃ W4, W4 = w2.alloc (.cells #[.slice t0.TA t0.Tn t0.Tc, .slice t0.CA t0.Cn t0.Cc, .slice t0.EA t0.En t0.Ec] 25) := ⟨_, rfl⟩
  rw [← hW4]
  have hb34 : Below w2.heap.size w2 W4 := by rw [hW4]; exact (Below.refl _ _).alloc (Nat.le_refl _) _
  have k4 : Blk W4 w2.heap.size 25 #[.slice t0.TA t0.Tn t0.Tc, .slice t0.CA t0.Cn t0.Cc, .slice t0.EA t0.En t0.Ec] := by rw [hW4]; exact Blk.new _ _ _
  have hbw4 : Below w.heap.size w W4 := hbw2.trans (hb34.mono hbw2.size)
  have hT0 : TabOk W4 W4.heap.size t0 := (hf0.below hb34).ok
  have hPS : PSm t0.p := by rw [hp0]; exact HP0.out.1
  have hsm := psm_sm hT0 hPS
  have crt := fun (W : World) (hb : Below W4.heap.size W4 W) => rtab_any t0 W ((hT0.keep hb).more hb.size) ⟨hsm.1.1, hsm.1.2.1, hsm.1.2.2.1⟩
  obtain ⟨bt, hbt⟩ : ∃ bt, tabB t0 = bt := ⟨_, rfl⟩
  have HBT := Lib.hid hbt
  rw [hbt] at crt
  have kx4 := blk_below (blk_below (blk_below HKX.out hb1) hb2) hb34
  have HC4 := Lib.hid (fun (W : World) (hb : Below W4.heap.size W4 W) => And.intro (blk_cells3 (blk_below k4 hb)).1 (blk_cells3 (blk_below kx4 hb)).1)
  have HT4 := Lib.hid hT0
  have HPP := Lib.hid hp0
  have HPS := Lib.hid hPS
  have HSM := Lib.hid hsm
  have HBW4 := Lib.hid hbw4
  have HL7 := Lib.hid k4.lt
  obtain ⟨⟨y0, y1, y2⟩, _⟩ := HC4.out W4 (Below.refl _ _)
  unfold Tab.V at crt
  clear hW4 hf0 hp0 hbw2 hb2 hb1 hbw1 hT0 hPS hsm k4 kx4 hbt hbw4 hb34
  generalize w2.heap.size = b7 at *
  go_upto_region 6 with (first
    | (go_at_call 17; ((with_reducible refine (crt _ (Below.refl _ _)).mono ?_); rintro en w5 ⟨rfl, hb5⟩))
    | (go_at_call 37; ((with_reducible refine (ccl _ (HBW4.out.trans (hb5.mono HBW4.out.size))).mono ?_); rintro en WL ⟨vv, rfl, hov, hb6⟩; obtain ⟨VA, Vc, rfl⟩ := own_slice hov))
    | fail)
  have hbL := hb5.trans (hb6.mono hb5.size)
  have HBL := Lib.hid (HBW4.out.trans (hbL.mono HBW4.out.size))
  have HCL := Lib.hid (fun (W : World) (hb : Below WL.heap.size WL W) => HC4.out W (hbL.trans (hb.mono hbL.size)))
  have hv0 : RwFresh WL w5.heap.size ⟨VA, q, Vc, l0⟩ := rwFresh_own hov HWL.out
  have HV0 := Lib.hid hv0
  have HTL := Lib.hid ((HT4.out.keep hbL).more hbL.size)
  have HL7L := Lib.hid (Nat.lt_of_lt_of_le HL7.out hbL.size)
  have HN0 := Lib.hid HTL.out.nl
  have HLN := Lib.hid HTL.out.len
  clear hb5 hb6 hov hbL hv0 y0 y1 y2 crt ccl f6 eq6
  have CSB := Lib.hid (fun (tB : Tab) (W : World) (hpB : tB.p = p0) (hTB : TabOk W W.heap.size tB) (hb : Below WL.heap.size WL W) => (show Calls Try.prog 22 #[t0.V, tB.V] W (fun e w' => e = .returned (.bool true) ∧ Below W.heap.size W w') from by
    have hpp : t0.p = tB.p := HPP.out.trans hpB.symm
    have h9 := rtsame_any t0 tB W ((HTL.out.keep hb).more hb.size) hTB HSM.out.1 (psm_sm hTB (by rw [← hpp]; exact HPS.out)).1
    rw [tabQ_p hpp] at h9
    exact h9))
  go_wp2_with fail
  go_loopw [39] (fun i wr => ∃ k : Nat, k ≤ rn ∧ i = .int .i64 k ∧ Below WL.heap.size WL wr) (fun i _ => rn - (intOf i).toNat)
  case atStart => exact ⟨0, Nat.zero_le _, rfl, Below.refl _ _⟩
  case round =>
    obtain ⟨k, hk, rfl, hb⟩ := hrel
    by_cases hlt : k < rn
    · have e1 := List.getElem?_eq_getElem (l := rs) (i := k) (by rw [HRS.out]; exact hlt)
      generalize rs[k]'(by rw [HRS.out]; exact hlt) = row at e1
      obtain ⟨b, off, rfl, hbl, g⟩ := ins_cell HRR.out e1
      have hcell := cell_below' (HBL.out.trans (hb.mono HBL.out.size)) g hbl
      have i1 : (k : Int) < (rn : Int) := by omega
      clear e1 g hbl
      by_cases hk5 : k = 5
      · subst hk5
        go_upto_region 38 with fail
        clear hcell i1
        obtain ⟨⟨y0, y1, y2⟩, ⟨z0, z1, z2⟩⟩ := HCL.out _ hb
        refine wp_region_held_drew (S := fun w' => (w'.cell? ⟨b7, 0, none⟩ = some (.slice t0.TA t0.Tn t0.Tc) ∧ w'.cell? ⟨b7, 1, none⟩ = some (.slice t0.CA t0.Cn t0.Cc) ∧ w'.cell? ⟨b7, 2, none⟩ = some (.slice t0.EA t0.En t0.Ec)) ∧ (w'.cell? ⟨w.heap.size, 0, none⟩ = some (.slice TA Tn Tc) ∧ w'.cell? ⟨w.heap.size, 1, none⟩ = some (.slice CA Cn Cc) ∧ w'.cell? ⟨w.heap.size, 2, none⟩ = some (.slice EA En Ec))) (by kernel_rfl) ⟨⟨y0, y1, y2⟩, ⟨z0, z1, z2⟩⟩ (fun hHeld => ?_)
        refine wpAnyH_take (i := 0) (oi := _) (v := ?_) rfl (by kernel_rfl) (by kernel_rfl) (by kernel_rfl) (fun _ _ _ h => h) (Or.inl ⟨by rfl, ?_⟩) hHeld ?_
        rotate_left
        · intro w hSw; obtain ⟨⟨s0, s1, s2⟩, ⟨s3, s4, s5⟩⟩ := hSw; go_simp; try with_reducible rfl
        simp only [Act.put, List.getElem_toArray, List.getElem_cons_succ, List.getElem_cons_zero, List.setIfInBounds_toArray, List.set_cons_zero, List.set_cons_succ]
        refine wpAnyH_take (i := 1) (oi := _) (v := ?_) rfl (by kernel_rfl) (by kernel_rfl) (by kernel_rfl) (fun _ _ _ h => h) (Or.inl ⟨by rfl, ?_⟩) hHeld ?_
        rotate_left
        · intro w hSw; obtain ⟨⟨s0, s1, s2⟩, ⟨s3, s4, s5⟩⟩ := hSw; go_simp; try with_reducible rfl
        simp only [Act.put, List.getElem_toArray, List.getElem_cons_succ, List.getElem_cons_zero, List.setIfInBounds_toArray, List.set_cons_zero, List.set_cons_succ]
        refine wpAnyH_ready (rs := [2]) (by kernel_rfl) (by simp) (AllReadyH.cons (o := _) rfl (fun K hK => ?_) AllReadyH.nil)
        go_simp
        (with_reducible refine (cown _ (HBL.out.trans (hb.drew.mono HBL.out.size))).mono ?_)
        rintro en w8 ⟨tB, rfl, hpB, hfB, hbB⟩
        have hbB := hb.drew.trans (hbB.mono hb.drew.size)
        refine hK.out _ _ (HCL.out _ hbB) (fun hHeld => ?_)
        clear hK K
        try simp only [Act.put, List.getElem_toArray, List.getElem_cons_succ, List.getElem_cons_zero, List.setIfInBounds_toArray, List.set_cons_zero, List.set_cons_succ]
        have csB := CSB.out tB w8 hpB hfB.ok hbB
        unfold Tab.V at csB
        refine wpAnyH_ready (rs := [3]) (by kernel_rfl) (by simp) (AllReadyH.cons (o := _) rfl (fun K hK => ?_) AllReadyH.nil)
        go_simp
        (with_reducible refine csB.mono ?_)
        rintro en w9 ⟨rfl, hb9⟩
        have hb9 := hbB.trans (hb9.mono hbB.size)
        refine hK.out _ _ (HCL.out _ hb9) (fun hHeld => ?_)
        clear hK K
        try simp only [Act.put, List.getElem_toArray, List.getElem_cons_succ, List.getElem_cons_zero, List.setIfInBounds_toArray, List.set_cons_zero, List.set_cons_succ]
        refine wpAnyH_take (i := 4) (oi := _) (v := ?_) rfl (by kernel_rfl) (by kernel_rfl) (by kernel_rfl) (fun _ _ _ h => h) (Or.inl ⟨by rfl, ?_⟩) hHeld ?_
        rotate_left
        · intro w hSw; obtain ⟨⟨s0, s1, s2⟩, ⟨s3, s4, s5⟩⟩ := hSw; go_simp; try with_reducible rfl
        simp only [Act.put, List.getElem_toArray, List.getElem_cons_succ, List.getElem_cons_zero, List.setIfInBounds_toArray, List.set_cons_zero, List.set_cons_succ]
        refine wpAnyH_done (by kernel_rfl) ?_ _
        go_wp2_with fail
        rw [← HPO.out]
        exact ⟨rfl, HBL.out.trans (hb9.mono HBL.out.size)⟩
      · have d5 : ((k : Int) == 5) = false := by simp; omega
        have cswp := tswap_any t0 row wr ((HTL.out.keep hb).more hb.size) HSM.out.1 ⟨HSM.out.2.1.1, HSM.out.2.1.2.1, HSM.out.2.1.2.2.1⟩
        obtain ⟨er, hEr⟩ : ∃ er, atE t0 row = er := ⟨_, rfl⟩
        obtain ⟨pE, hpE⟩ : ∃ pE, tswP t0 row = pE := ⟨_, rfl⟩
        obtain ⟨mv, hmv⟩ : ∃ mv, tswM t0 row = mv := ⟨_, rfl⟩
        have HPM := Lib.hid (show PSm pE from by rw [← hpE]; exact psm_swap row HPS.out (by rw [HPP.out]; exact HQ0.out))
        rw [hEr, hpE, hmv] at cswp
        have HER := Lib.hid hEr
        have HPE := Lib.hid hpE
        have HMV := Lib.hid hmv
        obtain ⟨⟨y0, y1, y2⟩, _⟩ := HCL.out _ hb
        unfold SwpR TabRes at cswp
        unfold Tab.V at cswp
        clear hEr hpE hmv
        have HBR := Lib.hid hb
        clear hb
        go_upto_region 11 with (first
          | (go_at_call 33; ((with_reducible refine cswp.mono ?_); rintro en w5 ⟨v5, rfl, ⟨t1, rfl, hp1, hf1⟩, hb5⟩; (try unfold Tab.V)))
          | fail)
        obtain ⟨W6, hW6⟩ : ∃ W6, W6 = w5.alloc (.cells #[.slice t1.TA t1.Tn t1.Tc, .slice t1.CA t1.Cn t1.Cc, .slice t1.EA t1.En t1.Ec] 25) := ⟨_, rfl⟩
        rw [← hW6]
        have hb56 : Below w5.heap.size w5 W6 := by rw [hW6]; exact (Below.refl _ _).alloc (Nat.le_refl _) _
        have hbR6 : Below wr.heap.size wr W6 := hb5.trans (hb56.mono hb5.size)
        have k6 : Blk W6 w5.heap.size 25 #[.slice t1.TA t1.Tn t1.Tc, .slice t1.CA t1.Cn t1.Cc, .slice t1.EA t1.En t1.Ec] := by rw [hW6]; exact Blk.new _ _ _
        have hF1 := hf1.below hb56
        clear hW6 hb56 hf1 hb5 cswp y0 y1 y2 hcell i1
        generalize w5.heap.size = b9 at *
        go_upto_region 12 with fail
        have k7 := Blk.new W6 25 #[.slice none 0 0, .slice none 0 0, .slice none 0 0]
        have hb67 := (Below.refl W6.heap.size W6).alloc (Nat.le_refl _) (.cells #[.slice none 0 0, .slice none 0 0, .slice none 0 0] 25)
        obtain ⟨W7, hW7⟩ : ∃ W7, W7 = W6.alloc (.cells #[.slice none 0 0, .slice none 0 0, .slice none 0 0] 25) := ⟨_, rfl⟩
        rw [← hW7] at k7 hb67 ⊢
        have hbR7 := hbR6.trans (hb67.mono hbR6.size)
        have HK7 := Lib.hid (fun (W : World) (hb : Below W7.heap.size W7 W) => blk_below k7 hb)
        have HB67 := Lib.hid hb67
        have HBR6 := Lib.hid hbR6
        have HBR7 := Lib.hid hbR7
        have HK6 := Lib.hid k6
        have HF1 := Lib.hid hF1
        have HP1 := Lib.hid hp1
        have HC7 := Lib.hid (fun (W : World) (hb : Below W7.heap.size W7 W) => HCL.out W (HBR.out.trans ((hbR7.trans (hb.mono hbR7.size)).mono HBR.out.size)))
        obtain ⟨⟨y0, y1, y2⟩, _⟩ := HC7.out W7 (Below.refl _ _)
        clear hW7 k7 hb67 hbR6 hbR7 k6 hF1 hp1
        obtain ⟨my, hmy⟩ : ∃ my : Bool, my = decide (0 ≤ row ∧ row < (t0.En : Int)) := ⟨_, rfl⟩
        have HMY := Lib.hid hmy
        clear hmy
        go_cut [17] from 54 to 62 (fun s wx => s = .bool my ∧ W7 = wx)
        case first =>
          by_cases h1 : 0 ≤ row
          · by_cases h2 : row < (t0.En : Int)
            · go_wp2_with fail
              go_meet
              case rel => exact ⟨by rw [HMY.out]; simp [h1, h2], by trivial⟩
            · go_wp2_with fail
              go_meet
              case rel => exact ⟨by rw [HMY.out]; simp [h1, h2], by trivial⟩
          · go_wp2_with fail
            go_meet
            case rel => exact ⟨by rw [HMY.out, decide_eq_false (fun h => by omega)], by trivial⟩
        case rest =>
        obtain ⟨rfl, rfl⟩ := hcut
        go_upto_if 63 with fail
        go_cut [15, 16] from 64 to 71 (fun s15 s16 wx => WantS mv er pE W6 s15 s16 wx)
        case first =>
          cases bt
          · obtain rfl : er = 190 := by rw [← HER.out]; exact atE_no HBT.out
            obtain rfl : pE = noT := by rw [← HPE.out]; exact tswP_no (by rw [HER.out]; decide)
            obtain rfl : mv = 0 := by rw [← HMV.out]; exact tswM_no (by rw [HER.out]; decide)
            go_wp2_with fail
            go_meet
            case rel => exact ⟨rfl, wantR_nil (HK7.out _ (Below.refl _ _)) HB67.out⟩
          · cases my
            · obtain rfl : er = 2 := by
                rw [← HER.out]
                refine atE_out HBT.out fun hh => ?_
                have h2 := HMY.out
                rw [HLN.out.2.2] at hh
                exact absurd (of_decide_eq_false h2.symm) (fun h3 => h3 hh)
              obtain rfl : pE = noT := by rw [← HPE.out]; exact tswP_no (by rw [HER.out]; decide)
              obtain rfl : mv = 0 := by rw [← HMV.out]; exact tswM_no (by rw [HER.out]; decide)
              go_wp2_with fail
              go_meet
              case rel => exact ⟨rfl, wantR_nil (HK7.out _ (Below.refl _ _)) HB67.out⟩
            · have hrow := of_decide_eq_true HMY.out.symm
              rw [← HLN.out.2.2] at hrow
              obtain rfl : er = 0 := by rw [← HER.out]; exact atE_in HBT.out hrow
              obtain ⟨r, rfl⟩ := Int.eq_ofNat_of_zero_le hrow.1
              obtain ⟨m, hm⟩ : ∃ m, t0.es.length = m + 1 := ⟨t0.es.length - 1, by omega⟩
              have hrm : r ≤ m := by omega
              have CDP := Lib.hid (fun (tA : Tab) (we : World) (hpA : tA.p = p0) (hTA : TabOk we we.heap.size tA) => (show Calls Try.prog 38 #[tA.V, .int .i64 (r : Int)] we (TabGot2 tA pE mv we) from by
                have hpp : tA.p = t0.p := hpA.trans HPP.out.symm
                have hsA := psm_sm hTA (by rw [hpp]; exact HPS.out)
                have h9 := rswap_any tA r m we hTA ⟨hsA.2.1.1, hsA.2.2⟩ ((tabB_p hpp hTA.nl HN0.out).trans HBT.out) (by rw [p_es hpp]; exact hm) hrm
                rw [rswapP_p hpp, ← swap_same HN0.out hm hrm HBT.out, HPE.out, p_es hpp, ← swm_eq HER.out hm hrm, HMV.out] at h9
                exact h9))
              have hbW7 := HBL.out.trans ((HBR.out.trans (HBR7.out.mono HBR.out.size)).mono HBL.out.size)
              obtain ⟨_, ⟨z0, z1, z2⟩⟩ := HC7.out W7 (Below.refl _ _)
              clear hrow hm hrm
              go_wp2_with (first
                | (go_at_call 14; ((with_reducible refine (cown _ hbW7).mono ?_); rintro en wd ⟨tA, rfl, hpA, hfA, hbA⟩; have cdp := CDP.out tA wd hpA hfA.ok; unfold TabGot2 Tab.V at cdp; (try unfold Tab.V)))
                | (go_at_call 38; ((with_reducible refine cdp.mono ?_); rintro en wf ⟨t2, rfl, hp2, hT2, hbF, hF2⟩; have hb9 := hbA.trans (hbF.mono hbA.size); have hk9 := HK7.out _ hb9; have hF9 := hF2 W7.heap.size hbA.size hfA; obtain ⟨⟨v0, v1, v2⟩, vf⟩ := blk_cells3 hk9; have vf0 := vf 0; have vf1 := vf 1; have vf2 := vf 2; (try unfold Tab.V)))
                | fail)
              have hb69 := HB67.out.trans (hb9.mono HB67.out.size)
              go_meet
              case rel => exact ⟨rfl, rfl, below_set3 hb69 (Nat.le_refl _), t2, ((hk9.set_ 0 _).set_ 1 _).set_ 2 _, hp2, (hF9.set3 hk9 _ _ _).ok⟩
        case rest =>
        obtain ⟨rfl, rfl, hbc, t2, kc, hp2, hT2⟩ := hcut
        have hbRc := HBR6.out.trans (hbc.mono HBR6.out.size)
        have hFc := HF1.out.below hbc
        have hpp : t1.p = t2.p := HP1.out.trans hp2.symm
        have hs1 := psm_sm hFc.ok (by rw [HP1.out]; exact HPM.out)
        have hs2 := psm_sm hT2 (by rw [hp2]; exact HPM.out)
        have csm := rtsame_any t1 t2 wc hFc.ok hT2 hs1.1 hs2.1
        rw [tabQ_p hpp] at csm
        have csp := fun (W : World) (hb : Below wc.heap.size wc W) => spoil_any t1 wr.heap.size W (hFc.below hb) (Nat.le_trans hbRc.size hb.size) ⟨hs1.1.1, hs1.1.2.1, hs1.1.2.2.1, hs1.1.2.2.2⟩
        have hk6 := fun (W : World) (hb : Below wc.heap.size wc W) => (blk_cells3 (blk_below (blk_below HK6.out hbc) hb)).1
        obtain ⟨r0, r1, r2⟩ := hk6 wc (Below.refl _ _)
        obtain ⟨⟨q0, q1, q2⟩, _⟩ := blk_cells3 kc
        have d0 : (er != er) = false := by simp
        have d1 : (mv != mv) = false := by simp
        have HRC := Lib.hid hbRc
        unfold Tab.V at csm csp
        clear hbc kc hp2 hT2 hFc hpp hs1 hs2 hbRc y0 y1 y2
        go_upto_region 21 with (first
          | (go_at_call 22; ((with_reducible refine csm.mono ?_); rintro en wg ⟨rfl, hbg⟩; obtain ⟨r0, r1, r2⟩ := hk6 wg hbg; have csp2 := csp _ hbg))
          | (go_at_call 23; ((with_reducible refine csp2.mono ?_); rintro en wh ⟨rfl, hbh⟩))
          | fail)
        have hbX := HBR.out.trans (((HRC.out.trans (hbg.mono HRC.out.size)).trans hbh).mono HBR.out.size)
        clear r0 r1 r2 q0 q1 q2 hk6 csm csp csp2 hbh hbg d0 d1
        obtain ⟨⟨y0, y1, y2⟩, _⟩ := HCL.out _ hbX
        have HX := Lib.hid hbX
        clear hbX
        have hTc := HTL.out.tyc.1
        have cmd := fun (w : World) => made_any 4611686018427387904 0 9 (.inr (.inl rfl)) ⟨by decide, by decide⟩ ⟨by decide, by decide⟩ w
        rw [show (4611686018427387904 + 0 * 4294967296 + 9 : Int) = 4611686018427387913 from by decide] at cmd
        refine wp_region_held_drew (S := fun w' => (w'.cell? ⟨b7, 0, none⟩ = some (.slice t0.TA t0.Tn t0.Tc) ∧ w'.cell? ⟨b7, 1, none⟩ = some (.slice t0.CA t0.Cn t0.Cc) ∧ w'.cell? ⟨b7, 2, none⟩ = some (.slice t0.EA t0.En t0.Ec))) (by kernel_rfl) ⟨y0, y1, y2⟩ (fun hHeld => ?_)
        refine wpAnyH_take (i := 0) (oi := _) (v := ?_) rfl (by kernel_rfl) (by kernel_rfl) (by kernel_rfl) (fun _ _ _ h => h) (Or.inl ⟨by rfl, ?_⟩) hHeld ?_
        rotate_left
        · intro w hSw; obtain ⟨s0, s1, s2⟩ := hSw; go_simp; try with_reducible rfl
        simp only [Act.put, List.getElem_toArray, List.getElem_cons_succ, List.getElem_cons_zero, List.setIfInBounds_toArray, List.set_cons_zero, List.set_cons_succ]
        refine wpAnyH_take (i := 1) (oi := _) (v := ?_) rfl (by kernel_rfl) (by kernel_rfl) (by kernel_rfl) (fun _ _ _ h => h) (Or.inl ⟨by rfl, ?_⟩) hHeld ?_
        rotate_left
        · intro w hSw; obtain ⟨s0, s1, s2⟩ := hSw; go_simp; try with_reducible rfl
        simp only [Act.put, List.getElem_toArray, List.getElem_cons_succ, List.getElem_cons_zero, List.setIfInBounds_toArray, List.set_cons_zero, List.set_cons_succ]
        refine wpAnyH_take (i := 2) (oi := _) (v := ?_) rfl (by kernel_rfl) (by kernel_rfl) (by kernel_rfl) (fun _ _ _ h => h) (Or.inl ⟨by rfl, ?_⟩) hHeld ?_
        rotate_left
        · intro w hSw; obtain ⟨s0, s1, s2⟩ := hSw; go_simp; try with_reducible rfl
        simp only [Act.put, List.getElem_toArray, List.getElem_cons_succ, List.getElem_cons_zero, List.setIfInBounds_toArray, List.set_cons_zero, List.set_cons_succ]
        refine wpAnyH_take (i := 3) (oi := _) (v := ?_) rfl (by kernel_rfl) (by kernel_rfl) (by kernel_rfl) (fun _ _ _ h => h) (Or.inl ⟨by rfl, ?_⟩) hHeld ?_
        rotate_left
        · intro w hSw; obtain ⟨s0, s1, s2⟩ := hSw; go_simp; try with_reducible rfl
        simp only [Act.put, List.getElem_toArray, List.getElem_cons_succ, List.getElem_cons_zero, List.setIfInBounds_toArray, List.set_cons_zero, List.set_cons_succ]
        refine wpAnyH_take (i := 4) (oi := _) (v := ?_) rfl (by kernel_rfl) (by kernel_rfl) (by kernel_rfl) (fun _ _ _ h => h) (Or.inl ⟨by rfl, ?_⟩) hHeld ?_
        rotate_left
        · intro w hSw; obtain ⟨s0, s1, s2⟩ := hSw; go_simp; try with_reducible rfl
        simp only [Act.put, List.getElem_toArray, List.getElem_cons_succ, List.getElem_cons_zero, List.setIfInBounds_toArray, List.set_cons_zero, List.set_cons_succ]
        refine wpAnyH_take (i := 5) (oi := _) (v := ?_) rfl (by kernel_rfl) (by kernel_rfl) (by kernel_rfl) (fun _ _ _ h => h) (Or.inl ⟨by rfl, ?_⟩) hHeld ?_
        rotate_left
        · intro w hSw; obtain ⟨s0, s1, s2⟩ := hSw; go_simp; try with_reducible rfl
        simp only [Act.put, List.getElem_toArray, List.getElem_cons_succ, List.getElem_cons_zero, List.setIfInBounds_toArray, List.set_cons_zero, List.set_cons_succ]
        refine wpAnyH_take (i := 6) (oi := _) (v := ?_) rfl (by kernel_rfl) (by kernel_rfl) (by kernel_rfl) (fun _ _ _ h => h) (Or.inl ⟨by rfl, ?_⟩) hHeld ?_
        rotate_left
        · intro w hSw; obtain ⟨s0, s1, s2⟩ := hSw; go_simp; try with_reducible rfl
        simp only [Act.put, List.getElem_toArray, List.getElem_cons_succ, List.getElem_cons_zero, List.setIfInBounds_toArray, List.set_cons_zero, List.set_cons_succ]
        refine wpAnyH_take (i := 7) (oi := _) (v := ?_) rfl (by kernel_rfl) (by kernel_rfl) (by kernel_rfl) (fun _ _ _ h => h) (Or.inl ⟨by rfl, ?_⟩) hHeld ?_
        rotate_left
        · intro w hSw; obtain ⟨s0, s1, s2⟩ := hSw; go_simp; try with_reducible rfl
        simp only [Act.put, List.getElem_toArray, List.getElem_cons_succ, List.getElem_cons_zero, List.setIfInBounds_toArray, List.set_cons_zero, List.set_cons_succ]
        refine wpAnyH_take (i := 8) (oi := _) (v := ?_) rfl (by kernel_rfl) (by kernel_rfl) (by kernel_rfl) (fun _ _ _ h => h) (Or.inl ⟨by rfl, ?_⟩) hHeld ?_
        rotate_left
        · intro w hSw; obtain ⟨s0, s1, s2⟩ := hSw; go_simp; try with_reducible rfl
        simp only [Act.put, List.getElem_toArray, List.getElem_cons_succ, List.getElem_cons_zero, List.setIfInBounds_toArray, List.set_cons_zero, List.set_cons_succ]
        refine wpAnyH_take (i := 13) (oi := _) (v := ?_) rfl (by kernel_rfl) (by kernel_rfl) (by kernel_rfl) (fun _ _ _ h => h) (Or.inl ⟨by rfl, ?_⟩) hHeld ?_
        rotate_left
        · intro w hSw; obtain ⟨s0, s1, s2⟩ := hSw; go_simp; try with_reducible rfl
        simp only [Act.put, List.getElem_toArray, List.getElem_cons_succ, List.getElem_cons_zero, List.setIfInBounds_toArray, List.set_cons_zero, List.set_cons_succ]
        refine wpAnyH_ready (rs := [9]) (by kernel_rfl) (by simp) (AllReadyH.cons (o := _) rfl (fun K hK => ?_) AllReadyH.nil)
        go_simp
        (with_reducible refine (cmd _).mono ?_)
        rintro en w8 ⟨rfl, rfl⟩
        refine hK.out _ _ hHeld (fun hHeld => ?_)
        clear hK K
        try simp only [Act.put, List.getElem_toArray, List.getElem_cons_succ, List.getElem_cons_zero, List.setIfInBounds_toArray, List.set_cons_zero, List.set_cons_succ]
        have hb10 : Below wh.drew.heap.size wh.drew (wh.alloc (.cells #[.int .u64 4611686018427387913] 27)).drew := (Below.refl wh.drew.heap.size wh.drew).alloc (Nat.le_refl _) (.cells #[.int .u64 4611686018427387913] 27)
        have hX10 := HX.out.drew.trans (hb10.mono HX.out.drew.size)
        have k10 : Blk (wh.alloc (.cells #[.int .u64 4611686018427387913] 27)).drew wh.drew.heap.size 27 #[.int .u64 4611686018427387913] := Blk.new wh.drew 27 #[.int .u64 4611686018427387913]
        refine wpAnyH_ready (rs := [10]) (by kernel_rfl) (by simp) (AllReadyH.cons (o := _) rfl (fun K hK => ?_) AllReadyH.nil)
        go_simp
        skip
        refine hK.out _ _ (HCL.out _ hX10).1 (fun hHeld => ?_)
        clear hK K
        try simp only [Act.put, List.getElem_toArray, List.getElem_cons_succ, List.getElem_cons_zero, List.setIfInBounds_toArray, List.set_cons_zero, List.set_cons_succ]
        generalize (wh.alloc (.cells #[.int .u64 4611686018427387913] 27)).drew = W10 at *
        obtain ⟨i1, hi0, hz0, hz1, hz2⟩ := info_parts info_id
        have hTy := (HTL.out.ty.below hX10).more hX10.size
        have hTs := HSM.out.2.1.2.1
        refine wpAnyH_ready (rs := [11]) (by kernel_rfl) (by simp) (AllReadyH.cons (o := _) rfl (fun K hK => ?_) AllReadyH.nil)
        refine step_append_grows rfl (.tmp 96) (.tmp 98) 22 rfl 27 i1 (.int .u64 0) 1 8 Try.underlying22 hi0 hz0 hz1 hz2 rfl (by omega) t0.TA t0.Tn t0.Tn (ids t0.ty) (by rfl) (ids_none hTy) (by rw [ids_len, HLN.out.1, Nat.mul_one]) (ids_all hTy)
          ⟨wh.drew.heap.size, 0, none⟩ 1 1 [.int .u64 4611686018427387913] (by rfl) rfl (blk_cells1 k10) (by simp [Value.oneCell']) (by omega) (by simp only [maxLen]; omega) (by omega) ?_
        intro vI wI hoI hgI
        have hbI := own_grown_below (Below.refl _ _) (World.ownsRow_nil W10 W10.heap.size 27 1) hgI
        have hXI := hX10.trans (hbI.mono hX10.size)
        obtain ⟨IA, Ic, rfl⟩ := own_slice hoI
        have hoI : wI.ownsRow W10.heap.size 27 1 (.slice IA (t0.Tn + 1) Ic) (t0.Tn + 1) (ids (t0.ty ++ [4611686018427387913])) := by
          have h9 := hoI
          rw [show ids t0.ty ++ [.int .u64 4611686018427387913] = ids (t0.ty ++ [4611686018427387913]) from by unfold ids; rw [List.map_append]; rfl] at h9
          exact h9
        refine hK.out _ _ (HCL.out _ hXI).1 (fun hHeld => ?_)
        clear hK K
        try simp only [Act.put, List.getElem_toArray, List.getElem_cons_succ, List.getElem_cons_zero, List.setIfInBounds_toArray, List.set_cons_zero, List.set_cons_succ]
        refine wpAnyH_take (i := 12) (oi := _) (v := ?_) rfl (by kernel_rfl) (by kernel_rfl) (by kernel_rfl) (fun _ _ _ h => h) (Or.inl ⟨by rfl, ?_⟩) hHeld ?_
        rotate_left
        · intro w hSw; obtain ⟨s0, s1, s2⟩ := hSw; go_simp; try with_reducible rfl
        simp only [Act.put, List.getElem_toArray, List.getElem_cons_succ, List.getElem_cons_zero, List.setIfInBounds_toArray, List.set_cons_zero, List.set_cons_succ]
        refine wpAnyH_done (by kernel_rfl) ?_ _
        have HOI := Lib.hid hoI
        have HXI := Lib.hid hXI
        have HCM := Lib.hid (fun (W : World) (hb : Below wI.heap.size wI W) => HCL.out W (hXI.trans (hb.mono hXI.size)))
        have HVM := Lib.hid (fun (W : World) (hb : Below wI.heap.size wI W) => RwFresh.below HV0.out (hXI.trans (hb.mono hXI.size)))
        have HTM := Lib.hid (fun (W : World) (hb : Below wI.heap.size wI W) => (HTL.out.keep (hXI.trans (hb.mono hXI.size))).more (hXI.trans (hb.mono hXI.size)).size)
        have hILen : (t0.ty ++ [4611686018427387913]).length = t0.Tn + 1 := by rw [List.length_append, HLN.out.1, List.length_singleton]
        have HIL := Lib.hid hILen
        clear hoI hbI hgI hXI hX10 hb10 k10 hTy y0 y1 y2 hHeld hi0 hz0 hz1 hz2 cmd hTc hILen
        generalize t0.ty ++ [4611686018427387913] = tl at *
        obtain ⟨IAv, hIAv⟩ : ∃ A, A = IA := ⟨_, rfl⟩
        rw [← hIAv]
        have HIA := Lib.hid hIAv.symm
        clear hIAv
        go_wp2_with fail
        obtain ⟨wo, rfl⟩ : ∃ wo, wo = wI := ⟨_, rfl⟩
        go_hide hQ
        go_loopw [101] (fun i wr => ∃ j : Nat, j ≤ t0.Tn + 1 ∧ i = .int .i64 j ∧ Below wo.heap.size wo wr) (fun i _ => t0.Tn + 1 - (intOf i).toNat)
        case atStart => exact ⟨0, Nat.zero_le _, rfl, Below.refl _ _⟩
        case round =>
          obtain ⟨j, hj, rfl, hb⟩ := hrel
          by_cases hlt2 : j < t0.Tn + 1
          · have e1 := List.getElem?_eq_getElem (l := tl) (i := j) (by rw [HIL.out]; exact hlt2)
            generalize tl[j]'(by rw [HIL.out]; exact hlt2) = id at e1
            obtain ⟨b, off, hIA, hbl, g⟩ := ids_cell (Reads.of_own HOI.out) e1
            have hcell := cell_below' hb g hbl
            have hIv := HIA.out.symm.trans hIA
            clear hIA
            subst hIv
            have i2 : (j : Int) < (t0.Tn : Int) + 1 := by omega
            clear e1 g hbl
            have cset := tset_any t0 row id ⟨VA, q, Vc, l0⟩ wr (HTM.out _ hb) HSM.out.1 HSM.out.2.1 (rwOk_fresh (HVM.out _ hb)) (by show q ≤ _; omega)
            obtain ⟨sE, hsE⟩ : ∃ sE, tseE t0 row id ⟨VA, q, Vc, l0⟩ = sE := ⟨_, rfl⟩
            obtain ⟨sP, hsP⟩ : ∃ sP, tseP t0 row id ⟨VA, q, Vc, l0⟩ = sP := ⟨_, rfl⟩
            have HSP := Lib.hid (show PSm sP from by rw [← hsP]; exact psm_set row id HPS.out (by rw [HPP.out]; exact HQ0.out) (by show l0.length ≤ 6; rw [HQL.out]; exact hq6))
            rw [hsE, hsP] at cset
            have HSE := Lib.hid hsE
            have HSPE := Lib.hid hsP
            obtain ⟨⟨y0, y1, y2⟩, _⟩ := HCM.out _ hb
            unfold SetR TabRes at cset
            unfold Tab.V at cset
            clear hsE hsP
            have HBI := Lib.hid hb
            clear hb
            go_upto_region 25 with (first
              | (go_at_call 39; ((with_reducible refine cset.mono ?_); rintro en w5 ⟨v5, rfl, ⟨t3, rfl, hp3, hf3⟩, hb5⟩; (try unfold Tab.V)))
              | fail)
            obtain ⟨Wa, hWa⟩ : ∃ Wa, Wa = w5.alloc (.cells #[.slice t3.TA t3.Tn t3.Tc, .slice t3.CA t3.Cn t3.Cc, .slice t3.EA t3.En t3.Ec] 25) := ⟨_, rfl⟩
            rw [← hWa]
            have hb5a : Below w5.heap.size w5 Wa := by rw [hWa]; exact (Below.refl _ _).alloc (Nat.le_refl _) _
            have hbIa : Below wr.heap.size wr Wa := hb5.trans (hb5a.mono hb5.size)
            have ka : Blk Wa w5.heap.size 25 #[.slice t3.TA t3.Tn t3.Tc, .slice t3.CA t3.Cn t3.Cc, .slice t3.EA t3.En t3.Ec] := by rw [hWa]; exact Blk.new _ _ _
            have hF3 := hf3.below hb5a
            clear hWa hb5a hf3 hb5 cset y0 y1 y2 hcell i2
            generalize w5.heap.size = b19 at *
            go_upto_region 26 with fail
            have kb := Blk.new Wa 25 #[.slice none 0 0, .slice none 0 0, .slice none 0 0]
            have hbab := (Below.refl Wa.heap.size Wa).alloc (Nat.le_refl _) (.cells #[.slice none 0 0, .slice none 0 0, .slice none 0 0] 25)
            obtain ⟨Wb, hWb⟩ : ∃ Wb, Wb = Wa.alloc (.cells #[.slice none 0 0, .slice none 0 0, .slice none 0 0] 25) := ⟨_, rfl⟩
            rw [← hWb] at kb hbab ⊢
            have hbIb := hbIa.trans (hbab.mono hbIa.size)
            have hbMb := HBI.out.trans (hbIb.mono HBI.out.size)
            have HKB := Lib.hid (fun (W : World) (hb : Below Wb.heap.size Wb W) => blk_below kb hb)
            have HBAB := Lib.hid hbab
            have HBIA := Lib.hid hbIa
            have HBMB := Lib.hid hbMb
            have HKA := Lib.hid ka
            have HF3 := Lib.hid hF3
            have HP3 := Lib.hid hp3
            have HCB := Lib.hid (fun (W : World) (hb : Below Wb.heap.size Wb W) => HCM.out W (hbMb.trans (hb.mono hbMb.size)))
            have ccol := rcolumn_any t0 id Wb (HTM.out _ hbMb) HSM.out.1.1
            obtain ⟨kx, hkx⟩ : ∃ kx, ixD t0.ty id = kx := ⟨_, rfl⟩
            rw [hkx] at ccol
            have HKX2 := Lib.hid hkx
            unfold Tab.V at ccol
            obtain ⟨⟨y0, y1, y2⟩, _⟩ := HCB.out Wb (Below.refl _ _)
            clear hWb kb hbab hbIa hbIb hbMb ka hF3 hp3 hkx
            go_upto_if 119 with (first
              | (go_at_call 32; ((with_reducible refine ccol.mono ?_); rintro en wc2 ⟨rfl, hbc2⟩))
              | fail)
            obtain ⟨⟨y0, y1, y2⟩, ⟨z0, z1, z2⟩⟩ := HCB.out _ hbc2
            clear ccol
            obtain ⟨CAv, hCAv⟩ : ∃ A, A = t0.CA := ⟨_, rfl⟩
            rw [← hCAv]
            rw [← hCAv] at y1
            have HCAE := Lib.hid hCAv.symm
            clear hCAv
            go_cut [23] from 120 to 138 (fun s wx => WantR sE sP Wa s wx)
            case first =>
              by_cases her : er = 0
              · subst her
                have hat := HER.out
                have hbt := (atE_zero hat).1
                by_cases hk0 : kx < 0
                · obtain ⟨e1, e2⟩ := tse_none (v := ⟨VA, q, Vc, l0⟩) hat (by rw [HKX2.out]; exact hk0)
                  obtain rfl : sE = 4 := HSE.out.symm.trans e1
                  obtain rfl : sP = noT := HSPE.out.symm.trans e2
                  clear e1 e2 hat hbt
                  go_wp2_with fail
                  go_meet
                  case rel => exact wantR_nil (HKB.out _ hbc2) (HBAB.out.trans (hbc2.mono HBAB.out.size))
                · obtain ⟨k0, x, hk1, hk2, hk3, hk4, hk5⟩ := ix_at hbt (id := id) (by rw [HKX2.out]; omega)
                  obtain rfl : kx = (k0 : Int) := HKX2.out.symm.trans hk1
                  have hTc := HTM.out _ (HBMB.out.trans (hbc2.mono HBMB.out.size))
                  obtain ⟨bc, oc, hCA, hblc, gc⟩ := cols_cells hTc.cs hk2
                  obtain ⟨c0, c1, c2⟩ := gc
                  have i3 : (k0 : Int) < (t0.Cn : Int) := by have := HLN.out.2.1; omega
                  have i4 : ¬ ((k0 : Int) < 0) := by omega
                  obtain ⟨xW, xR, xA, xn, xc, xl⟩ := x
                  simp only at c0 c1 c2
                  have hCv := HCAE.out.symm.trans hCA
                  clear hCA
                  subst hCv
                  by_cases hw : (q : Int) = xW
                  · obtain ⟨e1, e2⟩ := tse_ok (v := ⟨VA, q, Vc, l0⟩) hat hk3 hk4 hk2 HQL.out hw
                    obtain rfl : sE = 0 := HSE.out.symm.trans e1
                    obtain ⟨_, h0r, hrE⟩ := atE_zero hat
                    obtain ⟨r, rfl⟩ := Int.eq_ofNat_of_zero_le h0r
                    have hrl : r < t0.es.length := by omega
                    have CDS := Lib.hid (fun (tA : Tab) (we : World) (hpA : tA.p = p0) (hTA : TabOk we we.heap.size tA) (hbe : Below wo.heap.size wo we) => (show Calls Try.prog 40 #[tA.V, .int .i64 (r : Int), .int .i64 (k0 : Int), .slice VA q Vc] we (TabGotF tA sP we) from by
                      have hpp : tA.p = t0.p := hpA.trans HPP.out.symm
                      have hsA := psm_sm hTA (by rw [hpp]; exact HPS.out)
                      have h9 := rset_any tA r k0 ⟨VA, q, Vc, l0⟩ we hTA ⟨hsA.2.1.1, hsA.2.2⟩ ((tabB_p hpp hTA.nl HN0.out).trans hbt) (by rw [p_es hpp]; exact hrl) (by rw [p_len hpp]; exact hk5) (rwOk_fresh (HVM.out _ hbe)) e2
                      rw [rsetP_p hpp hTA.len.2.2 HLN.out.2.2, ← set_same2 HN0.out HLN.out.2.2 hrl hk3 HQL.out HSE.out, HSPE.out] at h9
                      exact h9))
                    have hbWc := HBL.out.trans ((HXI.out.trans ((HBMB.out.trans (hbc2.mono HBMB.out.size)).mono HXI.out.size)).mono HBL.out.size)
                    have d6 : ((q : Int) != xW) = false := by rw [hw]; simp
                    have HMC := Lib.hid (HBMB.out.trans (hbc2.mono HBMB.out.size))
                    clear e1 e2 hat hbt hk1 hk2 hk3 hk4 hk5 hTc h0r hrE hrl hblc hw
                    go_wp2_with (first
                      | (go_at_call 14; ((with_reducible refine (cown _ hbWc).mono ?_); rintro en wd ⟨tA, rfl, hpA, hfA, hbA⟩; have cds := CDS.out tA wd hpA hfA.ok (HMC.out.trans (hbA.mono HMC.out.size)); unfold TabGotF Tab.V at cds; (try unfold Tab.V)))
                      | (go_at_call 40; ((with_reducible refine cds.mono ?_); rintro en wf ⟨t2, rfl, hp2, hT2, hbF, hF2⟩; have hb9 := hbc2.trans ((hbA.trans (hbF.mono hbA.size)).mono hbc2.size); have hk9 := HKB.out _ hb9; have hF9 := hF2 wc2.heap.size hbA.size hfA; obtain ⟨⟨v0, v1, v2⟩, vf⟩ := blk_cells3 hk9; have vf0 := vf 0; have vf1 := vf 1; have vf2 := vf 2; (try unfold Tab.V)))
                      | fail)
                    have hb69 := HBAB.out.trans (hb9.mono HBAB.out.size)
                    go_meet
                    case rel => exact ⟨rfl, below_set3 hb69 (Nat.le_refl _), t2, ((hk9.set_ 0 _).set_ 1 _).set_ 2 _, hp2, (hF9.set3 hk9 _ _ _).ok⟩
                  · obtain ⟨e1, e2⟩ := tse_wide (v := ⟨VA, q, Vc, l0⟩) hat hk3 hk4 hk2 HQL.out hw
                    obtain rfl : sE = 140 := HSE.out.symm.trans e1
                    obtain rfl : sP = noT := HSPE.out.symm.trans e2
                    have d6 : ((q : Int) != xW) = true := by simpa using hw
                    clear e1 e2 hat hbt hk1 hk2 hk3 hk4 hk5 hTc hblc hw
                    go_wp2_with fail
                    go_meet
                    case rel => exact wantR_nil (HKB.out _ hbc2) (HBAB.out.trans (hbc2.mono HBAB.out.size))
              · obtain ⟨e1, e2⟩ := tse_at (t := t0) (row := row) (id := id) (v := ⟨VA, q, Vc, l0⟩) (by rw [HER.out]; exact her)
                obtain rfl : sE = er := (HSE.out.symm.trans e1).trans HER.out
                obtain rfl : sP = noT := HSPE.out.symm.trans e2
                clear e1 e2
                go_wp2_with fail
                go_meet
                case rel => exact wantR_nil (HKB.out _ hbc2) (HBAB.out.trans (hbc2.mono HBAB.out.size))
            case rest =>
            rw [← HCAE.out]
            obtain ⟨rfl, hbc, t2, kc, hp2, hT2⟩ := hcut
            have hbRc := HBIA.out.trans (hbc.mono HBIA.out.size)
            have hFc := HF3.out.below hbc
            have hpp : t3.p = t2.p := HP3.out.trans hp2.symm
            have hs1 := psm_sm hFc.ok (by rw [HP3.out]; exact HSP.out)
            have hs2 := psm_sm hT2 (by rw [hp2]; exact HSP.out)
            have csm := rtsame_any t3 t2 wc hFc.ok hT2 hs1.1 hs2.1
            rw [tabQ_p hpp] at csm
            have csp := fun (W : World) (hb : Below wc.heap.size wc W) => spoil_any t3 wr.heap.size W (hFc.below hb) (Nat.le_trans hbRc.size hb.size) ⟨hs1.1.1, hs1.1.2.1, hs1.1.2.2.1, hs1.1.2.2.2⟩
            have hk6 := fun (W : World) (hb : Below wc.heap.size wc W) => (blk_cells3 (blk_below (blk_below HKA.out hbc) hb)).1
            obtain ⟨r0, r1, r2⟩ := hk6 wc (Below.refl _ _)
            obtain ⟨⟨q0, q1, q2⟩, _⟩ := blk_cells3 kc
            have d0 : (sE != sE) = false := by simp
            have HRC := Lib.hid hbRc
            unfold Tab.V at csm csp
            clear hbc kc hp2 hT2 hFc hpp hs1 hs2 hbRc y0 y1 y2 z0 z1 z2 hbc2
            go_wp2_with (first
              | (go_at_call 22; ((with_reducible refine csm.mono ?_); rintro en wg ⟨rfl, hbg⟩; obtain ⟨r0, r1, r2⟩ := hk6 wg hbg; have csp2 := csp _ hbg))
              | (go_at_call 23; ((with_reducible refine csp2.mono ?_); rintro en wh ⟨rfl, hbh⟩))
              | fail)
            have hbY := HBI.out.trans (((HRC.out.trans (hbg.mono HRC.out.size)).trans hbh).mono HBI.out.size)
            have hTn6 := HSM.out.2.1.2.1
            go_roundw
            case rel => exact ⟨j + 1, by omega, by go_num, hbY⟩
            case measure => simp [intOf]; omega
          · have : j = t0.Tn + 1 := by omega
            subst this
            have i2 : ¬ ((t0.Tn : Int) + 1 < (t0.Tn : Int) + 1) := by omega
            subst hQ
            go_wp2_with fail
            go_roundw
            case rel => exact ⟨k + 1, by omega, by go_num, HXI.out.trans (hb.mono HXI.out.size)⟩
            case measure => simp [intOf]; omega
    · have : k = rn := by omega
      subst this
      have i1 : ¬ ((k : Int) < (k : Int)) := by omega
      go_upto_region 38 with fail
      clear i1
      obtain ⟨⟨y0, y1, y2⟩, ⟨z0, z1, z2⟩⟩ := HCL.out _ hb
      refine wp_region_held_drew (S := fun w' => (w'.cell? ⟨b7, 0, none⟩ = some (.slice t0.TA t0.Tn t0.Tc) ∧ w'.cell? ⟨b7, 1, none⟩ = some (.slice t0.CA t0.Cn t0.Cc) ∧ w'.cell? ⟨b7, 2, none⟩ = some (.slice t0.EA t0.En t0.Ec)) ∧ (w'.cell? ⟨w.heap.size, 0, none⟩ = some (.slice TA Tn Tc) ∧ w'.cell? ⟨w.heap.size, 1, none⟩ = some (.slice CA Cn Cc) ∧ w'.cell? ⟨w.heap.size, 2, none⟩ = some (.slice EA En Ec))) (by kernel_rfl) ⟨⟨y0, y1, y2⟩, ⟨z0, z1, z2⟩⟩ (fun hHeld => ?_)
      refine wpAnyH_take (i := 0) (oi := _) (v := ?_) rfl (by kernel_rfl) (by kernel_rfl) (by kernel_rfl) (fun _ _ _ h => h) (Or.inl ⟨by rfl, ?_⟩) hHeld ?_
      rotate_left
      · intro w hSw; obtain ⟨⟨s0, s1, s2⟩, ⟨s3, s4, s5⟩⟩ := hSw; go_simp; try with_reducible rfl
      simp only [Act.put, List.getElem_toArray, List.getElem_cons_succ, List.getElem_cons_zero, List.setIfInBounds_toArray, List.set_cons_zero, List.set_cons_succ]
      refine wpAnyH_take (i := 1) (oi := _) (v := ?_) rfl (by kernel_rfl) (by kernel_rfl) (by kernel_rfl) (fun _ _ _ h => h) (Or.inl ⟨by rfl, ?_⟩) hHeld ?_
      rotate_left
      · intro w hSw; obtain ⟨⟨s0, s1, s2⟩, ⟨s3, s4, s5⟩⟩ := hSw; go_simp; try with_reducible rfl
      simp only [Act.put, List.getElem_toArray, List.getElem_cons_succ, List.getElem_cons_zero, List.setIfInBounds_toArray, List.set_cons_zero, List.set_cons_succ]
      refine wpAnyH_ready (rs := [2]) (by kernel_rfl) (by simp) (AllReadyH.cons (o := _) rfl (fun K hK => ?_) AllReadyH.nil)
      go_simp
      (with_reducible refine (cown _ (HBL.out.trans (hb.drew.mono HBL.out.size))).mono ?_)
      rintro en w8 ⟨tB, rfl, hpB, hfB, hbB⟩
      have hbB := hb.drew.trans (hbB.mono hb.drew.size)
      refine hK.out _ _ (HCL.out _ hbB) (fun hHeld => ?_)
      clear hK K
      try simp only [Act.put, List.getElem_toArray, List.getElem_cons_succ, List.getElem_cons_zero, List.setIfInBounds_toArray, List.set_cons_zero, List.set_cons_succ]
      have csB := CSB.out tB w8 hpB hfB.ok hbB
      unfold Tab.V at csB
      refine wpAnyH_ready (rs := [3]) (by kernel_rfl) (by simp) (AllReadyH.cons (o := _) rfl (fun K hK => ?_) AllReadyH.nil)
      go_simp
      (with_reducible refine csB.mono ?_)
      rintro en w9 ⟨rfl, hb9⟩
      have hb9 := hbB.trans (hb9.mono hbB.size)
      refine hK.out _ _ (HCL.out _ hb9) (fun hHeld => ?_)
      clear hK K
      try simp only [Act.put, List.getElem_toArray, List.getElem_cons_succ, List.getElem_cons_zero, List.setIfInBounds_toArray, List.set_cons_zero, List.set_cons_succ]
      refine wpAnyH_take (i := 4) (oi := _) (v := ?_) rfl (by kernel_rfl) (by kernel_rfl) (by kernel_rfl) (fun _ _ _ h => h) (Or.inl ⟨by rfl, ?_⟩) hHeld ?_
      rotate_left
      · intro w hSw; obtain ⟨⟨s0, s1, s2⟩, ⟨s3, s4, s5⟩⟩ := hSw; go_simp; try with_reducible rfl
      simp only [Act.put, List.getElem_toArray, List.getElem_cons_succ, List.getElem_cons_zero, List.setIfInBounds_toArray, List.set_cons_zero, List.set_cons_succ]
      refine wpAnyH_done (by kernel_rfl) ?_ _
      go_wp2_with fail
      rw [← HPO.out]
      exact ⟨rfl, HBL.out.trans (hb9.mono HBL.out.size)⟩
theorem goes_row (t : Tab) (RA : Option Addr) (rn rc : Nat) (rs : List Int) (hrc : rn ≤ rc) (hrn : rc * 8 ≤ 140737488351232) (hwr : ∀ x ∈ rs, (Lit.int .i64 x).wf = true) (A : Option Addr) (n c : Nat) (l : List Int) (hc : n ≤ c) (hn : c * 8 ≤ 140737488351232) (hwl : ∀ x ∈ l, (Lit.int .u64 x).wf = true)
    (w : World) (h : TabOk w w.heap.size t) (hRr : Reads w w.heap.size 1 RA rn (rs.map (Value.int .i64))) (hR : Reads w w.heap.size 1 A n (l.map (Value.int .u64))) :
    Calls Try.prog 7 #[t.V, .slice RA rn rc, .slice A n c] w fun en w' => en = .returned (.bool true) ∧ Below w.heap.size w w' :=
  goes_walk t RA rn rc rs ⟨A, n, c, l⟩ w h hRr (by omega) ⟨hR, hc, by show c ≤ 9223372036854775807; omega, fun y hy => wf_word (hwl y hy)⟩
end Go.Proofs.Ytbcbknajhdaneaa
