/- What is proved: the contract of table's Set. -/
import Derived.Test.YtbcbknajhdaneaaTb9
namespace Go.Proofs.Ytbcbknajhdaneaa
open Go.RowKit
set_option linter.unusedVariables false
set_option linter.unusedSimpArgs false
def tseE (t : Tab) (row id : Int) (v : Rw) : Int := if plE t row id = 0 then (if chkV v.l = 0 then eachE (setcE (ibAt t.ty id) row v) 0 t.F else 140) else plE t row id
def tseP (t : Tab) (row id : Int) (v : Rw) : PT := if tseE t row id v = 0 then (t.ty, eachL (setcP (ibAt t.ty id) row v) 0 t.F, t.es) else noT
/-- a table, and how it went -/
def SetR (p : PT) (er : Int) (w : World) (e : Ending) (w' : World) : Prop := ∃ v, e = .returned (.tuple #[v, .int .i64 er]) ∧ TabRes p w.heap.size v w' ∧ Below w.heap.size w w'
theorem setR_nil (er : Int) {w w' : World} (h : Below w.heap.size w w') : SetR noT er w (.returned (.tuple #[.agg #[.slice none 0 0, .slice none 0 0, .slice none 0 0], .int .i64 er])) w' := ⟨_, rfl, tabRes_nil _ _, h⟩
theorem eachE_vals (fe : Nat → Col → Int) (a : Int) : ∀ (F : List Col) (b : Nat), (∀ j y, F[j]? = some y → fe (b + j) y = 0 ∨ fe (b + j) y = a) → eachE fe b F = 0 ∨ eachE fe b F = a
  | [], _, _ => .inl rfl
  | x :: F, b, h => by
    unfold eachE
    by_cases h0 : fe b x = 0
    · rw [if_pos h0]
      exact eachE_vals fe a F (b + 1) fun j y hy => by rw [show b + 1 + j = b + (j + 1) from by omega]; exact h (j + 1) y (by simpa using hy)
    · rw [if_neg h0]
      rcases h 0 x rfl with h1 | h1
      · exact absurd h1 h0
      · exact .inr h1
set_option maxRecDepth 100000 in
set_option maxHeartbeats 8000000 in
theorem tset_any (t : Tab) (row id : Int) (v : Rw) (w : World) (h : TabOk w w.heap.size t) (hs : TabSm t) (hn : t.Cn ≤ 65536 ∧ t.Tn ≤ 65536 ∧ t.En ≤ 65536 ∧ ∀ x ∈ t.F, x.n ≤ 65536) (hv : RwOk w w.heap.size v) (hvn : v.n ≤ 281474976710656) :
    Calls Try.prog 39 #[t.V, .int .i64 row, .int .u64 id, .slice v.A v.n v.c] w (SetR (tseP t row id v) (tseE t row id v) w) := by
  obtain ⟨W0, hW0⟩ : ∃ W0, W0 = (((w.alloc (.cells #[.slice t.TA t.Tn t.Tc, .slice t.CA t.Cn t.Cc, .slice t.EA t.En t.Ec] 25)).alloc (.cells #[.int .i64 row] 3)).alloc (.cells #[.slice v.A v.n v.c] 44)).alloc (.cells #[.slice none 0 0, .slice none 0 0, .slice none 0 0] 25) := ⟨_, rfl⟩
  have hB : Below w.heap.size w W0 := by rw [hW0]; exact ((((Below.refl w.heap.size w).alloc (Nat.le_refl _) _).alloc (by simp) _).alloc (by simp; omega) _).alloc (by simp; omega) _
  have hsz : W0.heap.size = w.heap.size + 4 := by rw [hW0]; simp
  have k0 : Blk W0 w.heap.size 25 #[.slice t.TA t.Tn t.Tc, .slice t.CA t.Cn t.Cc, .slice t.EA t.En t.Ec] := by rw [hW0]; exact (((Blk.new w _ _).alloc _).alloc _).alloc _
  have k1 : Blk W0 (w.heap.size + 1) 3 #[.int .i64 row] := by
    rw [hW0]
    have h := Blk.new (w.alloc (.cells #[.slice t.TA t.Tn t.Tc, .slice t.CA t.Cn t.Cc, .slice t.EA t.En t.Ec] 25)) 3 #[.int .i64 row]
    rw [World.size_alloc] at h
    exact (h.alloc _).alloc _
  have k2 : Blk W0 (w.heap.size + 2) 44 #[.slice v.A v.n v.c] := by
    rw [hW0]
    have h := Blk.new ((w.alloc (.cells #[.slice t.TA t.Tn t.Tc, .slice t.CA t.Cn t.Cc, .slice t.EA t.En t.Ec] 25)).alloc (.cells #[.int .i64 row] 3)) 44 #[.slice v.A v.n v.c]
    rw [World.size_alloc, World.size_alloc] at h
    exact h.alloc _
  have k3 : Blk W0 (w.heap.size + 3) 25 #[.slice none 0 0, .slice none 0 0, .slice none 0 0] := by
    rw [hW0]
    have h := Blk.new (((w.alloc (.cells #[.slice t.TA t.Tn t.Tc, .slice t.CA t.Cn t.Cc, .slice t.EA t.En t.Ec] 25)).alloc (.cells #[.int .i64 row] 3)).alloc (.cells #[.slice v.A v.n v.c] 44)) 25 #[.slice none 0 0, .slice none 0 0, .slice none 0 0]
    rw [World.size_alloc, World.size_alloc, World.size_alloc] at h
    exact h
  have hT := (h.keep hB).more hB.size
  have hV := (hv.keep hB).more hB.size
  have cp := tplace_any t row id W0 hT hs
  have c10 : W0.cell? ⟨w.heap.size + 1, 0, none⟩ = some (.int .i64 row) := k1.cell 0
  have c20 : W0.cell? ⟨w.heap.size + 2, 0, none⟩ = some (.slice v.A v.n v.c) := k2.cell 0
  obtain ⟨⟨x0, x1, x2⟩, _⟩ := blk_cells3 k0
  have hw := plE_ways t row id
  have zz := fun (w2 : World) (hb : Below W0.heap.size W0 w2) => And.intro (blk_below k0 hb) (And.intro (blk_below k2 hb) (And.intro (blk_below k3 hb) (hB.trans (hb.mono hB.size))))
  have HZ := Lib.hid zz
  have HW := Lib.hid hW0
  have HS := Lib.hid hsz
  have HTW := Lib.hid h.tyw
  have HEW := Lib.hid h.esw
  by_cases h0 : plE t row id = 0
  · have hk0 : plK t row id = (ibAt t.ty id : Int) := by unfold plK; rw [if_pos h0]
    obtain ⟨ha, hi⟩ := plE_zero h0
    obtain ⟨hb0, hr0, hr1⟩ := atE_zero ha
    obtain ⟨_, _, _, hcb, _⟩ := tabB_parts hb0
    rw [h0, hk0] at cp
    have cvk := fun w => check_v v.A v.n v.c v.l hv.len (by omega) w
    by_cases hck : chkV v.l = 0
    · rw [hck] at cvk
      have hE : tseE t row id v = eachE (setcE (ibAt t.ty id) row v) 0 t.F := by unfold tseE; rw [if_pos h0, if_pos hck]
      have hval : eachE (setcE (ibAt t.ty id) row v) 0 t.F = 0 ∨ eachE (setcE (ibAt t.ty id) row v) 0 t.F = 140 := by
        refine eachE_vals _ _ _ _ fun j y hy => ?_
        unfold setcE
        split
        · obtain ⟨hc1, hc2⟩ := hcb y (List.mem_of_getElem? hy)
          have hg : getE y row = 0 := by unfold getE; rw [hc1, if_pos rfl, if_pos ⟨hr0, by rw [hc2]; exact hr1⟩]
          unfold setE
          rw [hg, if_pos rfl]
          split
          · exact .inr rfl
          · exact .inl rfl
        · exact .inl rfl
      have ce := fun (w2 : World) (hb : Below W0.heap.size W0 w2) => each3_any t 92 w2.heap.size (w.heap.size + 1) (w.heap.size + 2) (setcP (ibAt t.ty id) row v) (setcE (ibAt t.ty id) row v) (w2.alloc (.cells #[.int .i64 (ibAt t.ty id : Int)] 3)) (((hT.cs.below hb).alloc hb.size _).more (by have := hb.size; simp; omega)) hn.1
        (enters_of Try.func92 (by kernel_rfl) rfl)
        (fun k x hx W hbW => by
          have hb9 := (hb.alloc hb.size (.cells #[.int .i64 (ibAt t.ty id : Int)] 3)).trans (hbW.mono (by have := hb.size; simp; omega))
          have hsz9 := hbW.size
          have hsz8 := hb.size
          simp at hsz9
          exact setc_any k x v w2.heap.size (w.heap.size + 1) (w.heap.size + 2) (ibAt t.ty id) row W (((hT.csok x (List.mem_of_getElem? hx)).keep hb9).more hb9.size) (hn.2.2.2 x (List.mem_of_getElem? hx))
            (cell_below' hbW (new_cell w2 3 #[.int .i64 (ibAt t.ty id : Int)] (k := 0) rfl) (by simp)) (cell_below' hb9 c10 (by omega)) (cell_below' hb9 c20 (by omega)) (by omega) (by omega) (by omega) ((hV.keep hb9).more hb9.size))
      have co := fun (w2 : World) (hb : Below W0.heap.size W0 w2) => town0 t.EA t.En t.Ec t.es w2 ((hT.es.below hb).more hb.size) hn.2.2.1
      have cu := fun (w2 : World) (hb : Below W0.heap.size W0 w2) => clone_d t.TA t.Tn t.Tc t.ty w2 ((hT.ty.below hb).more hb.size) hn.2.1
      have hfin : (eachE (setcE (ibAt t.ty id) row v) 0 t.F = 0 → SetR (tseP t row id v) (tseE t row id v) w = SetR (t.ty, eachL (setcP (ibAt t.ty id) row v) 0 t.F, t.es) 0 w) ∧ (eachE (setcE (ibAt t.ty id) row v) 0 t.F = 140 → SetR (tseP t row id v) (tseE t row id v) w = SetR noT 140 w) := by
        refine ⟨fun hh => ?_, fun hh => ?_⟩
        · unfold tseP; rw [hE, hh, if_pos rfl]
        · unfold tseP; rw [hE, hh, if_neg (by decide)]
      have hep : eachE (setcE (ibAt t.ty id) row v) 0 t.F = 0 → eachP (setcP (ibAt t.ty id) row v) (setcE (ibAt t.ty id) row v) t.F = eachL (setcP (ibAt t.ty id) row v) 0 t.F := fun hh => by unfold eachP; rw [if_pos hh]
      have HVL := Lib.hid hval
      have HFN := Lib.hid hfin
      have HEP := Lib.hid hep
      clear hfin hval hep hE
      generalize SetR (tseP t row id v) (tseE t row id v) w = POST at *
      generalize eachP (setcP (ibAt t.ty id) row v) (setcE (ibAt t.ty id) row v) t.F = ps at *
      generalize eachE (setcE (ibAt t.ty id) row v) 0 t.F = er at *
      generalize eachL (setcP (ibAt t.ty id) row v) 0 t.F = cl at *
      generalize ibAt t.ty id = ia at *
      unfold Tab.V at cp ce ⊢
      unfold EachR at ce
      unfold OwnD at co cu
      obtain ⟨TA, Tn, Tc, ty, CA, Cn, Cc, F, EA, En, Ec, es⟩ := t
      obtain ⟨vA, vn, vc, vl⟩ := v
      simp only at *
      clear hW0 hsz h hs k0 k1 k2 k3 hT zz h0 hk0 ha hi hb0 hr0 hr1 hcb hn hw hv hV hck
      rcases HVL.out with rfl | rfl
      · have HFIN := Lib.hid (HFN.out.1 rfl)
        have HEQ := Lib.hid (HEP.out rfl)
        clear HFN HEP
        go_enter Try.func39, Try.ntmps39
        go_upto_region 1 with fail
        rw [← HW.out]
        go_wp2_with (first
          | (go_at_call 84; ((with_reducible refine cp.mono ?_); rintro en w2 ⟨rfl, hb2⟩; obtain ⟨z0, z1, z2, zb⟩ := HZ.out _ hb2; obtain ⟨⟨z0, y1, y2⟩, _⟩ := blk_cells3 z0; have z10 : w2.cell? ⟨w.heap.size + 2, 0, none⟩ = some (.slice vA vn vc) := z1.cell 0; have zs := hb2.size; have zo := HS.out; have yy0 := fun o : Obj => cell_below' ((Below.refl w2.heap.size w2).alloc (Nat.le_refl _) o) z0 (by omega); have yy1 := fun o : Obj => cell_below' ((Below.refl w2.heap.size w2).alloc (Nat.le_refl _) o) y1 (by omega); have yy2 := fun o : Obj => cell_below' ((Below.refl w2.heap.size w2).alloc (Nat.le_refl _) o) y2 (by omega); have yyv := fun o : Obj => cell_below' ((Below.refl w2.heap.size w2).alloc (Nat.le_refl _) o) z10 (by omega); clear z1 z2 zb zs zo))
          | (go_at_call 91; ((with_reducible refine (cvk _).mono ?_); rintro en w3 ⟨rfl, rfl⟩))
          | (go_at_call 67; ((with_reducible refine (ce _ hb2).mono ?_); rintro en w5 ⟨v, F', rfl, ho3, hl3, hf3, hb3⟩; have hb33 := (hb2.alloc hb2.size _).trans (hb3.mono (by have := hb2.size; simp; omega)); have HO3 := Lib.hid ho3; have HL3 := Lib.hid hl3; have HF3 := Lib.hid hf3; obtain ⟨Av, cv, rfl⟩ := own_slice ho3; clear ho3 hl3 hf3))
          | fail)
        rw [HEQ.out] at HL3
        obtain ⟨k05, _, k25, _⟩ := HZ.out _ hb33
        obtain ⟨⟨s0', _, s2'⟩, _⟩ := blk_cells3 k05
        have hl0 : w.heap.size < w5.heap.size := k05.lt
        have hz2 : w.heap.size ≤ (w2.alloc (.cells #[.int .i64 (ia : Int)] 3)).heap.size := by have := hb2.size; have := HS.out; simp; omega
        have HC5 := Lib.hid (base_le HO3.out hz2)
        have HF5 := Lib.hid (fun x hx => colFresh_base (HF3.out x hx) hz2)
        have HK5 := Lib.hid k25
        have HLT5 := Lib.hid k25.lt
        have HB5 := Lib.hid hb33
        have hB5d := hb33.drew
        clear k05 k25 hb33 hb3 hb2 HO3 HF3 HEQ cp ce cvk x0 x1 x2 c10 c20 z0 y1 y2 z10 yy0 yy1 yy2 yyv hz2
        refine wp_region_held_drew (S := fun w' => w'.cell? ⟨w.heap.size, 0, none⟩ = some (.slice TA Tn Tc) ∧ w'.cell? ⟨w.heap.size, 2, none⟩ = some (.slice EA En Ec)) (by kernel_rfl) ⟨s0', s2'⟩ (fun hHeld => ?_)
        refine wpAnyH_take (i := 0) (oi := _) (v := ?_) rfl (by kernel_rfl) (by kernel_rfl) (by kernel_rfl) (fun _ _ _ h => h) (Or.inl ⟨by rfl, ?_⟩) hHeld ?_
        rotate_left
        · intro w hSw; obtain ⟨s0, s2⟩ := hSw; go_simp; try with_reducible rfl
        simp only [Act.put, List.getElem_toArray, List.getElem_cons_succ, List.getElem_cons_zero, List.setIfInBounds_toArray, List.set_cons_zero, List.set_cons_succ]
        refine wpAnyH_take (i := 1) (oi := _) (v := ?_) rfl (by kernel_rfl) (by kernel_rfl) (by kernel_rfl) (fun _ _ _ h => h) (Or.inl ⟨by rfl, ?_⟩) hHeld ?_
        rotate_left
        · intro w hSw; obtain ⟨s0, s2⟩ := hSw; go_simp; try with_reducible rfl
        simp only [Act.put, List.getElem_toArray, List.getElem_cons_succ, List.getElem_cons_zero, List.setIfInBounds_toArray, List.set_cons_zero, List.set_cons_succ]
        refine wpAnyH_take (i := 3) (oi := _) (v := ?_) rfl (by kernel_rfl) (by kernel_rfl) (by kernel_rfl) (fun _ _ _ h => h) (Or.inl ⟨by rfl, ?_⟩) hHeld ?_
        rotate_left
        · intro w hSw; obtain ⟨s0, s2⟩ := hSw; go_simp; try with_reducible rfl
        simp only [Act.put, List.getElem_toArray, List.getElem_cons_succ, List.getElem_cons_zero, List.setIfInBounds_toArray, List.set_cons_zero, List.set_cons_succ]
        refine wpAnyH_take (i := 4) (oi := _) (v := ?_) rfl (by kernel_rfl) (by kernel_rfl) (by kernel_rfl) (fun _ _ _ h => h) (Or.inl ⟨by rfl, ?_⟩) hHeld ?_
        rotate_left
        · intro w hSw; obtain ⟨s0, s2⟩ := hSw; go_simp; try with_reducible rfl
        simp only [Act.put, List.getElem_toArray, List.getElem_cons_succ, List.getElem_cons_zero, List.setIfInBounds_toArray, List.set_cons_zero, List.set_cons_succ]
        refine wpAnyH_take (i := 5) (oi := _) (v := ?_) rfl (by kernel_rfl) (by kernel_rfl) (by kernel_rfl) (fun _ _ _ h => h) (Or.inl ⟨by rfl, ?_⟩) hHeld ?_
        rotate_left
        · intro w hSw; obtain ⟨s0, s2⟩ := hSw; go_simp; try with_reducible rfl
        simp only [Act.put, List.getElem_toArray, List.getElem_cons_succ, List.getElem_cons_zero, List.setIfInBounds_toArray, List.set_cons_zero, List.set_cons_succ]
        refine wpAnyH_ready (rs := [2]) (by kernel_rfl) (by simp) (AllReadyH.cons (o := _) rfl (fun K hK => ?_) AllReadyH.nil)
        go_simp
        refine (cu _ hB5d).mono ?_
        rintro en w6 ⟨vt, rfl, hot, hb1⟩
        obtain ⟨At, ct, rfl⟩ := own_slice hot
        have hb1 : Below w5.heap.size w5 w6 := (Below.refl w5.heap.size w5).drew.trans hb1
        have hB6 : Below W0.heap.size W0 w6 := HB5.out.trans (hb1.mono HB5.out.size)
        refine hK.out _ _ ⟨cell_below' hb1 s0' hl0, cell_below' hb1 s2' hl0⟩ (fun hHeld => ?_)
        clear hK K
        try simp only [Act.put, List.getElem_toArray, List.getElem_cons_succ, List.getElem_cons_zero, List.setIfInBounds_toArray, List.set_cons_zero, List.set_cons_succ]
        refine wpAnyH_ready (rs := [6]) (by kernel_rfl) (by simp) (AllReadyH.cons (o := _) rfl (fun K hK => ?_) AllReadyH.nil)
        go_simp
        refine (co _ hB6).mono ?_
        rintro en w7 ⟨ve, rfl, hoe, hb2⟩
        obtain ⟨Ae, ce, rfl⟩ := own_slice hoe
        have hb3 : Below w5.heap.size w5 w7 := hb1.trans (hb2.mono hb1.size)
        refine hK.out _ _ ⟨cell_below' hb3 s0' hl0, cell_below' hb3 s2' hl0⟩ (fun hHeld => ?_)
        clear hK K
        try simp only [Act.put, List.getElem_toArray, List.getElem_cons_succ, List.getElem_cons_zero, List.setIfInBounds_toArray, List.set_cons_zero, List.set_cons_succ]
        have hot := own_below hot hb2
        have hk6 := HK5.out.below hb3 HLT5.out
        obtain ⟨⟨q0, q1, q2⟩, qf⟩ := blk_cells3 hk6
        have qf0 := qf 0
        have qf1 := qf 1
        have qf2 := qf 2
        have HOT := Lib.hid hot
        have HOE := Lib.hid hoe
        have HK6 := Lib.hid hk6
        clear qf hot hoe hk6
        refine wpAnyH_take (i := 7) (oi := _) (v := ?_) rfl (by kernel_rfl) (by kernel_rfl) (by kernel_rfl) (fun _ _ _ h => h) (Or.inl ⟨by rfl, ?_⟩) hHeld ?_
        rotate_left
        · intro w hSw; obtain ⟨s0, s2⟩ := hSw; go_simp; try with_reducible rfl
        simp only [Act.put, List.getElem_toArray, List.getElem_cons_succ, List.getElem_cons_zero, List.setIfInBounds_toArray, List.set_cons_zero, List.set_cons_succ]
        refine wpAnyH_ready (rs := [8]) (by kernel_rfl) (by simp) (AllReadyH.cons (o := _) rfl (fun K hK => ?_) AllReadyH.nil)
        go_simp
        skip
        refine hK.out _ _ ⟨far3 _ _ _ trivial (cell_below' hb3 s0' hl0) (by omega), far3 _ _ _ trivial (cell_below' hb3 s2' hl0) (by omega)⟩ (fun hHeld => ?_)
        clear hK K
        try simp only [Act.put, List.getElem_toArray, List.getElem_cons_succ, List.getElem_cons_zero, List.setIfInBounds_toArray, List.set_cons_zero, List.set_cons_succ]
        refine wpAnyH_take (i := 9) (oi := _) (v := ?_) rfl (by kernel_rfl) (by kernel_rfl) (by kernel_rfl) (fun _ _ _ h => h) (Or.inl ⟨by rfl, ?_⟩) hHeld ?_
        rotate_left
        · intro w hSw; obtain ⟨s0, s2⟩ := hSw; go_simp; try with_reducible rfl
        simp only [Act.put, List.getElem_toArray, List.getElem_cons_succ, List.getElem_cons_zero, List.setIfInBounds_toArray, List.set_cons_zero, List.set_cons_succ]
        refine wpAnyH_done (by kernel_rfl) ?_ _
        go_wp2_with fail
        refine bodyPost_ret (v := .tuple #[.agg #[.slice At ty.length ct, .slice Av F'.length cv, .slice Ae es.length ce], .int .i64 0]) (by simp [results, Try.results39, go_sem, *]) rfl ?_
        show POST _ _
        rw [HFIN.out]
        have hzz : w.heap.size ≤ w5.heap.size := by omega
        have hbig := (hB.trans (HB5.out.mono hB.size)).trans (hb3.mono hzz)
        have hfr : TabFresh w7 w.heap.size ⟨At, ty.length, ct, ty, Av, F'.length, cv, F', Ae, es.length, ce, es⟩ :=
          ⟨(idFresh_own HOT.out HTW.out).base (Nat.le_trans hzz (Nat.le_refl _)), own_below HC5.out hb3, fun x hx => (HF5.out x hx).below hb3, (idFresh_own HOE.out HEW.out).base (Nat.le_trans hzz hb1.size)⟩
        exact ⟨_, rfl, ⟨⟨At, ty.length, ct, ty, Av, F'.length, cv, F', Ae, es.length, ce, es⟩, rfl, by unfold Tab.p; simp only; rw [HL3.out], hfr.set3 HK6.out _ _ _⟩, below_set3 hbig (by omega)⟩
      · have HFIN := Lib.hid (HFN.out.2 rfl)
        clear HFN HEP co cu
        go_enter Try.func39, Try.ntmps39
        go_upto_region 1 with fail
        rw [← HW.out]
        go_wp2_with (first
          | (go_at_call 84; ((with_reducible refine cp.mono ?_); rintro en w2 ⟨rfl, hb2⟩; obtain ⟨z0, z1, z2, zb⟩ := HZ.out _ hb2; obtain ⟨⟨z0, y1, y2⟩, _⟩ := blk_cells3 z0; have z10 : w2.cell? ⟨w.heap.size + 2, 0, none⟩ = some (.slice vA vn vc) := z1.cell 0; have zs := hb2.size; have zo := HS.out; have yy0 := fun o : Obj => cell_below' ((Below.refl w2.heap.size w2).alloc (Nat.le_refl _) o) z0 (by omega); have yy1 := fun o : Obj => cell_below' ((Below.refl w2.heap.size w2).alloc (Nat.le_refl _) o) y1 (by omega); have yy2 := fun o : Obj => cell_below' ((Below.refl w2.heap.size w2).alloc (Nat.le_refl _) o) y2 (by omega); have yyv := fun o : Obj => cell_below' ((Below.refl w2.heap.size w2).alloc (Nat.le_refl _) o) z10 (by omega); clear z1 z2 zb zs zo))
          | (go_at_call 91; ((with_reducible refine (cvk _).mono ?_); rintro en w3 ⟨rfl, rfl⟩))
          | (go_at_call 67; ((with_reducible refine (ce _ hb2).mono ?_); rintro en w5 ⟨v, F', rfl, ho3, hl3, hf3, hb3⟩; have hb33 := (hb2.alloc hb2.size _).trans (hb3.mono (by have := hb2.size; simp; omega)); obtain ⟨_, _, k25, kb⟩ := HZ.out _ hb33; obtain ⟨⟨q0, q1, q2⟩, qf⟩ := blk_cells3 k25; have qf0 := qf 0; have qf1 := qf 1; have qf2 := qf 2; obtain ⟨Av, cv, rfl⟩ := own_slice ho3; clear ho3 hl3 hf3 qf k25))
          | fail)
        refine bodyPost_ret (v := .tuple #[.agg #[.slice none 0 0, .slice none 0 0, .slice none 0 0], .int .i64 140]) (by simp [results, Try.results39, go_sem, *]) rfl ?_
        show POST _ _
        rw [HFIN.out]
        exact setR_nil 140 (below_set3 kb (by omega))
    · have hck2 : chkV v.l = 140 := by unfold chkV at hck ⊢; split <;> simp_all
      rw [hck2] at cvk
      have hfin : SetR (tseP t row id v) (tseE t row id v) w = SetR noT 140 w := by
        have hE : tseE t row id v = 140 := by unfold tseE; rw [if_pos h0, if_neg hck]
        unfold tseP; rw [hE, if_neg (by decide)]
      rw [hfin]
      generalize ibAt t.ty id = ia at *
      unfold Tab.V at cp ⊢
      obtain ⟨TA, Tn, Tc, ty, CA, Cn, Cc, F, EA, En, Ec, es⟩ := t
      obtain ⟨vA, vn, vc, vl⟩ := v
      simp only at *
      clear hW0 hsz h hs k0 k1 k2 k3 hT zz h0 hk0 ha hi hb0 hr0 hr1 hcb hn hw hv hV hck hck2 hfin
      go_enter Try.func39, Try.ntmps39
      go_upto_region 1 with fail
      rw [← HW.out]
      go_wp2_with (first
        | (go_at_call 84; ((with_reducible refine cp.mono ?_); rintro en w2 ⟨rfl, hb2⟩; obtain ⟨z0, z1, z2, zb⟩ := HZ.out _ hb2; have z10 : w2.cell? ⟨w.heap.size + 2, 0, none⟩ = some (.slice vA vn vc) := z1.cell 0; have zs := hb2.size; have zo := HS.out; have yyv := fun o : Obj => cell_below' ((Below.refl w2.heap.size w2).alloc (Nat.le_refl _) o) z10 (by omega); have zr := z2.alloc (.cells #[.int .i64 (ia : Int)] 3); obtain ⟨⟨q0, q1, q2⟩, qf⟩ := blk_cells3 zr; have qf0 := qf 0; have qf1 := qf 1; have qf2 := qf 2; clear z0 z1 z2 zs zo qf zr))
        | (go_at_call 91; ((with_reducible refine (cvk _).mono ?_); rintro en w3 ⟨rfl, rfl⟩))
        | fail)
      refine bodyPost_ret (v := .tuple #[.agg #[.slice none 0 0, .slice none 0 0, .slice none 0 0], .int .i64 140]) (by simp [results, Try.results39, go_sem, *]) rfl ?_
      exact setR_nil 140 (below_set3 (zb.alloc zb.size _) (by omega))
  · have hfin : SetR (tseP t row id v) (tseE t row id v) w = SetR noT (plE t row id) w := by
      have hE : tseE t row id v = plE t row id := by unfold tseE; rw [if_neg h0]
      unfold tseP; rw [hE, if_neg h0]
    rw [hfin]
    have hk0 : plK t row id = 0 := by unfold plK; rw [if_neg h0]
    rw [hk0] at cp
    unfold Tab.V at cp ⊢
    generalize plE t row id = pe at *
    obtain ⟨TA, Tn, Tc, ty, CA, Cn, Cc, F, EA, En, Ec, es⟩ := t
    obtain ⟨vA, vn, vc, vl⟩ := v
    simp only at *
    clear hW0 hsz h hs k0 k1 k2 k3 hT zz hk0 hn hv hV hfin
    rcases hw with rfl | rfl | rfl | rfl
    · exact absurd rfl h0
    all_goals
      clear h0
      go_enter Try.func39, Try.ntmps39
      go_upto_region 1 with fail
      rw [← HW.out]
      go_wp2_with (first
        | (go_at_call 84; ((with_reducible refine cp.mono ?_); rintro en w2 ⟨rfl, hb2⟩; obtain ⟨z0, z1, z2, zb⟩ := HZ.out _ hb2; have zr := z2.alloc (.cells #[.int .i64 0] 3); obtain ⟨⟨q0, q1, q2⟩, qf⟩ := blk_cells3 zr; have qf0 := qf 0; have qf1 := qf 1; have qf2 := qf 2; clear z0 z1 z2 qf zr))
        | fail)
    · refine bodyPost_ret (v := .tuple #[.agg #[.slice none 0 0, .slice none 0 0, .slice none 0 0], .int .i64 2]) (by simp [results, Try.results39, go_sem, *]) rfl ?_
      exact setR_nil 2 (below_set3 (zb.alloc zb.size _) (by omega))
    · refine bodyPost_ret (v := .tuple #[.agg #[.slice none 0 0, .slice none 0 0, .slice none 0 0], .int .i64 190]) (by simp [results, Try.results39, go_sem, *]) rfl ?_
      exact setR_nil 190 (below_set3 (zb.alloc zb.size _) (by omega))
    · refine bodyPost_ret (v := .tuple #[.agg #[.slice none 0 0, .slice none 0 0, .slice none 0 0], .int .i64 4]) (by simp [results, Try.results39, go_sem, *]) rfl ?_
      exact setR_nil 4 (below_set3 (zb.alloc zb.size _) (by omega))
end Go.Proofs.Ytbcbknajhdaneaa
