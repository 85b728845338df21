/- What is proved: the shift laws' wakes says yes. -/
import Derived.Test.YtbcbknajhdaneaaVSc2
namespace Go.Proofs.Ytbcbknajhdaneaa
open Go.RowKit Go.Maps
set_option linter.unusedVariables false
set_option linter.unusedSimpArgs false
theorem wk1 : mvE (ofP sP1) (ofP sP2) 0 = 0 := by kernel_rfl
theorem wk2 : mvM (ofP sP1) (ofP sP2) 0 = 6 := by kernel_rfl
theorem wk3 : mvR (ofP sP1) (ofP sP2) 0 = 0 := by kernel_rfl
theorem wk4 : (alG sP1 sP2 0 [0, 0]).2.2 = 0 := by kernel_rfl
theorem wk5 : (alG sP1 sP2 0 [0, 0]).2.1.2.2 = [5, 6] := by kernel_rfl
theorem wk6 : shE (ofP sP1) (ofP sP2) = 0 := by kernel_rfl
theorem wk8 : mvE (ofP sP1) (ofP sP1) 0 = 5 := by kernel_rfl
theorem shE_nx {f t : Tab} (hf : NL f) (ht : NL t) : shE (ofP f.p) (ofP t.p) = shE f t := by unfold shE; rw [tabB_nx hf, tabB_nx ht]
theorem psm_s1 : PSm sP1 := ⟨by decide, by decide, by decide, fun q hq => by
  simp only [sP1, List.mem_cons, List.not_mem_nil, or_false] at hq
  rcases hq with rfl | rfl <;> decide⟩
theorem psm_s2 : PSm sP2 := ⟨by decide, by decide, by decide, fun q hq => by
  simp only [sP2, List.mem_cons, List.not_mem_nil, or_false] at hq
  rcases hq with rfl | rfl <;> decide⟩
set_option maxRecDepth 100000 in
set_option maxHeartbeats 16000000 in
theorem wakes11_any (w : World) : Calls Try.prog 48 #[] w fun e w' => e = .returned (.bool true) ∧ Below w.heap.size w w' := by
  have cs := fun w => small11_any w
  unfold Got2 at cs
  generalize hpost : (fun e w' => e = Ending.returned (.bool true) ∧ Below w.heap.size w w') = POST
  have HPO := Lib.hid hpost
  clear hpost
  go_enter Try.func48, Try.ntmps48
  go_upto_region 2 with (first
    | (go_at_call 97; ((with_reducible refine (cs _).mono ?_); rintro en w2 ⟨a, b, rfl, hap, hbp, hao, hbo, hb2⟩; clear cs; unfold Tab.V))
    | fail)
  obtain ⟨X1, hX1⟩ : ∃ X1, X1 = (w2.alloc (.cells #[.slice a.TA a.Tn a.Tc, .slice a.CA a.Cn a.Cc, .slice a.EA a.En a.Ec] 25)).alloc (.cells #[.slice b.TA b.Tn b.Tc, .slice b.CA b.Cn b.Cc, .slice b.EA b.En b.Ec] 25) := ⟨_, rfl⟩
  have hb1 : Below w2.heap.size w2 X1 := by rw [hX1]; exact ((Below.refl _ _).alloc (Nat.le_refl _) _).alloc (by simp) _
  have ka : Blk X1 w2.heap.size 25 #[.slice a.TA a.Tn a.Tc, .slice a.CA a.Cn a.Cc, .slice a.EA a.En a.Ec] := by rw [hX1]; exact (Blk.new w2 _ _).alloc _
  have kb : Blk X1 (w2.heap.size + 1) 25 #[.slice b.TA b.Tn b.Tc, .slice b.CA b.Cn b.Cc, .slice b.EA b.En b.Ec] := by
    rw [hX1]
    have h := Blk.new (w2.alloc (.cells #[.slice a.TA a.Tn a.Tc, .slice a.CA a.Cn a.Cc, .slice a.EA a.En a.Ec] 25)) 25 #[.slice b.TA b.Tn b.Tc, .slice b.CA b.Cn b.Cc, .slice b.EA b.En b.Ec]
    rw [World.size_alloc] at h
    exact h
  rw [← hX1]
  have hwX : Below w.heap.size w X1 := hb2.trans (hb1.mono hb2.size)
  have ha1 := (hao.keep hb1).more hb1.size
  have hbo1 := (hbo.keep hb1).more hb1.size
  obtain ⟨sa, na, na2⟩ := psm_sm ha1 (by rw [hap]; exact psm_s1)
  obtain ⟨sb, nb, nb2⟩ := psm_sm hbo1 (by rw [hbp]; exact psm_s2)
  have hea := p_es (a := a) (b := ofP sP1) (by rw [ofP_p]; exact hap)
  have hta := p_ty (a := a) (b := ofP sP1) (by rw [ofP_p]; exact hap)
  have htb := p_ty (a := b) (b := ofP sP2) (by rw [ofP_p]; exact hbp)
  have heb := p_es (a := b) (b := ofP sP2) (by rw [ofP_p]; exact hbp)
  have cm1 : ∀ W, Below X1.heap.size X1 W → Calls Try.prog 50 #[a.V, b.V, .int .i64 0] W (MovR (mvF a b 0) (mvT a b 0) 0 6 0 W) := fun W h => by
    have := move_any a b 0 W ((ha1.keep h).more h.size) ((hbo1.keep h).more h.size) sa sb ⟨na.1, na.2.1, na.2.2.1⟩ ⟨nb.1, nb.2.1, nb2⟩
    have e1 := mvE_nx ha1.nl hbo1.nl 0
    have e2 := mvM_nx ha1.nl hbo1.nl 0
    have e3 := mvR_nx ha1.nl hbo1.nl 0
    rw [hap, hbp] at e1 e2 e3
    rw [← e1, ← e2, ← e3, wk1, wk2, wk3] at this
    exact this
  have cm2 : ∀ W, Below X1.heap.size X1 W → Calls Try.prog 50 #[a.V, a.V, .int .i64 0] W (MovR (mvF a a 0) (mvT a a 0) (mvR a a 0) (mvM a a 0) 5 W) := fun W h => by
    have := move_any a a 0 W ((ha1.keep h).more h.size) ((ha1.keep h).more h.size) sa sa ⟨na.1, na.2.1, na.2.2.1⟩ ⟨na.1, na.2.1, na2⟩
    have e1 := mvE_nx ha1.nl ha1.nl 0
    rw [hap] at e1
    rw [← e1, wk8] at this
    exact this
  have hsh : shE a b = 0 := by
    have := shE_nx ha1.nl hbo1.nl
    rw [hap, hbp, wk6] at this
    exact this.symm
  have cal : ∀ (W : World) (bi : Nat), Below X1.heap.size X1 W → Blk W bi 3 #[.int .i64 0, .int .i64 0] → Calls Try.prog 55 #[a.V, b.V, .slice (some ⟨bi, 0, none⟩) 2 2] W (AlR (alG sP1 sP2 0 [0, 0]) W) := fun W bi h hk => by
    have := along_any a b (some ⟨bi, 0, none⟩) 2 2 [0, 0] W ((ha1.keep h).more h.size) ((hbo1.keep h).more h.size) (by rw [hap]; exact psm_s1) (by rw [hbp]; exact psm_s2) (by rw [hea]; decide) (by rw [heb]; decide) (blk_reads hk rfl) (by omega)
    rw [hsh, hap, hbp] at this
    exact this
  have clo : ∀ W, Below X1.heap.size X1 W → Calls Try.prog 57 #[a.V, b.V] W (LostR [4611686018427387905] 0 W) := fun W h => by
    have := lost_any a b W ((ha1.keep h).more h.size) ((hbo1.keep h).more h.size) sa sb na.2.1 nb.2.1
    rw [hsh, if_pos rfl, hta, htb] at this
    exact this
  obtain ⟨be, oe, hEA, hle, hce⟩ := ids_cell ha1.es (k := 1) (x := 6) (by rw [hea]; rfl)
  have hEn : a.En = 2 := by have h9 := ha1.len.2.2; rw [hea] at h9; exact h9.symm
  have HES := Lib.hid (fun (W : World) (h : Below X1.heap.size X1 W) => show Reads W W.heap.size 1 a.EA a.En (ids [5, 6]) from by
    have h9 := ((ha1.keep h).more h.size).es
    rw [hea] at h9
    exact h9)
  generalize mvF a b 0 = p1 at *
  generalize mvT a b 0 = p2 at *
  generalize mvF a a 0 = p3 at *
  generalize mvT a a 0 = p4 at *
  generalize mvR a a 0 = v1 at *
  generalize mvM a a 0 = v2 at *
  unfold MovR at cm1 cm2
  unfold AlR at cal
  unfold LostR at clo
  unfold Tab.V at cm1 cm2 cal clo
  simp only [wk4, if_pos] at cal
  have HWX := Lib.hid hwX
  generalize w2.heap.size = b1 at *
  have HAB := Lib.hid (fun (W : World) (h : Below X1.heap.size X1 W) => And.intro (blk_below ka h) (And.intro (blk_below kb h) (cell_below' h hce hle)))
  have HEN := Lib.hid hEn
  have HEA := Lib.hid hEA
  obtain ⟨⟨c0, c1, c2⟩, _⟩ := blk_cells3 ka
  obtain ⟨⟨d0, d1, d2⟩, _⟩ := blk_cells3 kb
  clear hX1 hb1 ka kb hwX ha1 hbo1 sa na na2 sb nb nb2 hea hta htb heb hap hbp hao hbo hb2 hsh hEA hce hEn
  go_upto_region 3 with (first
    | (go_at_call 50; ((with_reducible refine (cm1 _ (Below.refl _ _)).mono ?_); rintro en w3 ⟨tf, tt, wm, rfl, _, _, _, _, _, _, hb3⟩))
    | fail)
  obtain ⟨X2, hX2⟩ : ∃ X2, X2 = w3.alloc (.cells #[.slice tf.TA tf.Tn tf.Tc, .slice tf.CA tf.Cn tf.Cc, .slice tf.EA tf.En tf.Ec, .slice tt.TA tt.Tn tt.Tc, .slice tt.CA tt.Cn tt.Cc, .slice tt.EA tt.En tt.Ec, .int .i64 0, .int .u64 6] 82) := ⟨_, rfl⟩
  have hx2 : Below X1.heap.size X1 X2 := by rw [hX2]; exact hb3.alloc hb3.size _
  have km : Blk X2 w3.heap.size 82 #[.slice tf.TA tf.Tn tf.Tc, .slice tf.CA tf.Cn tf.Cc, .slice tf.EA tf.En tf.Ec, .slice tt.TA tt.Tn tt.Tc, .slice tt.CA tt.Cn tt.Cc, .slice tt.EA tt.En tt.Ec, .int .i64 0, .int .u64 6] := by rw [hX2]; exact Blk.new w3 _ _
  rw [← hX2]
  generalize w3.heap.size = b3 at *
  clear hX2 hb3 c0 c1 c2 d0 d1 d2 cm1
  have HKM := Lib.hid (fun (W : World) (h : Below X2.heap.size X2 W) => blk_below km h)
  obtain ⟨ka, kb, _⟩ := HAB.out _ hx2
  obtain ⟨⟨c0, c1, c2⟩, _⟩ := blk_cells3 ka
  obtain ⟨⟨d0, d1, d2⟩, _⟩ := blk_cells3 kb
  have hxi : Below X2.heap.size X2 (X2.alloc (.cells #[.int .i64 0, .int .i64 0] 3)) := (Below.refl _ _).alloc (Nat.le_refl _) _
  have cal2 := cal _ X2.heap.size (hx2.trans (hxi.mono hx2.size)) (Blk.new X2 _ _)
  have HX2 := Lib.hid hx2
  have HXI := Lib.hid hxi
  clear ka kb km cal hx2 hxi
  go_upto_region 4 with (first
    | (go_at_call 55; ((with_reducible refine cal2.mono ?_); rintro en w4 ⟨tf4, tt4, rfl, _, htp4, _, hft4, hb4⟩; (try unfold Tab.V)))
    | fail)
  obtain ⟨X3, hX3⟩ : ∃ X3, X3 = (w4.alloc (.cells #[.slice tf4.TA tf4.Tn tf4.Tc, .slice tf4.CA tf4.Cn tf4.Cc, .slice tf4.EA tf4.En tf4.Ec] 25)).alloc (.cells #[.slice tt4.TA tt4.Tn tt4.Tc, .slice tt4.CA tt4.Cn tt4.Cc, .slice tt4.EA tt4.En tt4.Ec] 25) := ⟨_, rfl⟩
  have h43 : Below w4.heap.size w4 X3 := by rw [hX3]; exact ((Below.refl _ _).alloc (Nat.le_refl _) _).alloc (by simp) _
  have hx3 : Below X2.heap.size X2 X3 := (HXI.out.trans (hb4.mono HXI.out.size)).trans (h43.mono (Nat.le_trans HXI.out.size hb4.size))
  have kt : Blk X3 (w4.heap.size + 1) 25 #[.slice tt4.TA tt4.Tn tt4.Tc, .slice tt4.CA tt4.Cn tt4.Cc, .slice tt4.EA tt4.En tt4.Ec] := by
    rw [hX3]
    have h := Blk.new (w4.alloc (.cells #[.slice tf4.TA tf4.Tn tf4.Tc, .slice tf4.CA tf4.Cn tf4.Cc, .slice tf4.EA tf4.En tf4.Ec] 25)) 25 #[.slice tt4.TA tt4.Tn tt4.Tc, .slice tt4.CA tt4.Cn tt4.Cc, .slice tt4.EA tt4.En tt4.Ec]
    rw [World.size_alloc] at h
    exact h
  have hes4 : tt4.es = [5, 6] := by
    have h9 := congrArg (fun p : PT => p.2.2) htp4
    simp only [wk5] at h9
    exact h9
  have hr4 : Reads X3 X3.heap.size 1 tt4.EA tt4.En (ids [5, 6]) := by rw [← hes4]; exact (hft4.below h43).ok.es
  have hn4 : tt4.En = 2 := by have h9 := hft4.ok.len.2.2; rw [hes4] at h9; exact h9.symm
  rw [← hX3]
  generalize w4.heap.size = b5 at *
  have HKT := Lib.hid (fun (W : World) (h : Below X3.heap.size X3 W) => And.intro (blk_below kt h) ((hr4.below h).more h.size))
  have hx13 := HX2.out.trans (hx3.mono HX2.out.size)
  have HX3 := Lib.hid hx3
  have HX13 := Lib.hid hx13
  have HN4 := Lib.hid hn4
  have clo2 := clo X3 hx13
  clear hX3 h43 hx3 kt hes4 hr4 hn4 htp4 hft4 hb4 c0 c1 c2 d0 d1 d2 cal2 clo
  obtain ⟨ka, kb, _⟩ := HAB.out _ hx13
  obtain ⟨⟨c0, c1, c2⟩, _⟩ := blk_cells3 ka
  obtain ⟨⟨d0, d1, d2⟩, _⟩ := blk_cells3 kb
  clear ka kb hx13
  go_upto_region 5 with (first
    | (go_at_call 57; ((with_reducible refine clo2.mono ?_); rintro en w5 ⟨A5, m5, c5, rfl, hR5, hb5⟩))
    | fail)
  have hm5 : m5 = 1 := by have h9 := hR5.1; rw [ids_len] at h9; simp at h9; omega
  subst hm5
  have hx15 := HX13.out.trans (hb5.mono HX13.out.size)
  have cm5 := cm2 w5 hx15
  have HB5 := Lib.hid hb5
  have HX15 := Lib.hid hx15
  clear c0 c1 c2 d0 d1 d2 clo2 cm2 hR5 hb5
  obtain ⟨ka, kb, _⟩ := HAB.out _ hx15
  obtain ⟨⟨c0, c1, c2⟩, _⟩ := blk_cells3 ka
  clear ka kb hx15
  go_upto_region 6 with (first
    | (go_at_call 50; ((with_reducible refine cm5.mono ?_); rintro en w6 ⟨tf6, tt6, wm6, rfl, _, _, _, _, _, _, hb6⟩))
    | fail)
  obtain ⟨X6, hX6⟩ : ∃ X6, X6 = w6.alloc (.cells #[.slice tf6.TA tf6.Tn tf6.Tc, .slice tf6.CA tf6.Cn tf6.Cc, .slice tf6.EA tf6.En tf6.Ec, .slice tt6.TA tt6.Tn tt6.Tc, .slice tt6.CA tt6.Cn tt6.Cc, .slice tt6.EA tt6.En tt6.Ec, .int .i64 v1, .int .u64 v2] 82) := ⟨_, rfl⟩
  have hx36 : Below X3.heap.size X3 X6 := HB5.out.trans ((show Below w5.heap.size w5 X6 from by rw [hX6]; exact hb6.alloc hb6.size _).mono HB5.out.size)
  rw [← hX6]
  have hx26 := HX3.out.trans (hx36.mono HX3.out.size)
  have hx16 := HX2.out.trans (hx26.mono HX2.out.size)
  obtain ⟨ka, _, ge⟩ := HAB.out _ hx16
  obtain ⟨⟨_, _, c2⟩, _⟩ := blk_cells3 ka
  obtain ⟨⟨_, _, _, _, _, _, q6, q7⟩, _⟩ := blk_cells8 (HKM.out _ hx26)
  obtain ⟨kt, hr6⟩ := HKT.out _ hx36
  obtain ⟨⟨_, _, r2⟩, _⟩ := blk_cells3 kt
  have hra := HES.out _ hx16
  have ceq := fun (W : World) (h : Below X6.heap.size X6 W) => equal_d tt4.EA tt4.En tt4.Ec [5, 6] a.EA a.En a.Ec [5, 6] W ((hr6.below h).more h.size) ((hra.below h).more h.size) (by rw [HN4.out]; omega) (by rw [HEN.out]; omega)
  have hE2 : a.EA = some ⟨be, oe, none⟩ := HEA.out
  have he56 : (([5, 6] : List Int) == [5, 6]) = true := rfl
  simp only [he56] at ceq
  rw [hE2] at c2 ceq
  simp only [HEN.out] at c2 ceq
  have HW6 := Lib.hid (HWX.out.trans (hx16.mono HWX.out.size))
  clear hX6 hx36 hx26 ka hra hr6 kt hE2 cm5 hb6 hx16
  refine wp_region_held_drew (S := fun w' => (w'.cell? ⟨b3, 6, none⟩ = some (.int .i64 0) ∧ w'.cell? ⟨b3, 7, none⟩ = some (.int .u64 6)) ∧ w'.cell? ⟨b1, 2, none⟩ = some (.slice (some ⟨be, oe, none⟩) 2 a.Ec) ∧ w'.cell? ⟨be, oe + 1, none⟩ = some (.int .u64 6) ∧ w'.cell? ⟨b5 + 1, 2, none⟩ = some (.slice tt4.EA tt4.En tt4.Ec)) (by kernel_rfl) ⟨⟨q6, q7⟩, c2, ge, r2⟩ (fun hHeld => ?_)
  refine wpAnyH_take (i := 0) (oi := _) (v := ?_) rfl (by kernel_rfl) (by kernel_rfl) (by kernel_rfl) (fun _ _ _ h => h) (Or.inl ⟨by rfl, ?_⟩) hHeld ?_
  rotate_left
  · intro w hSw; obtain ⟨⟨s0, s1⟩, s2, s3, s4⟩ := hSw; go_simp; try with_reducible rfl
  simp only [Act.put, List.getElem_toArray, List.getElem_cons_succ, List.getElem_cons_zero, List.setIfInBounds_toArray, List.set_cons_zero, List.set_cons_succ]
  refine wpAnyH_take (i := 1) (oi := _) (v := ?_) rfl (by kernel_rfl) (by kernel_rfl) (by kernel_rfl) (fun _ _ _ h => h) (Or.inl ⟨by rfl, ?_⟩) hHeld ?_
  rotate_left
  · intro w hSw; obtain ⟨⟨s0, s1⟩, s2, s3, s4⟩ := hSw; go_simp; try with_reducible rfl
  simp only [Act.put, List.getElem_toArray, List.getElem_cons_succ, List.getElem_cons_zero, List.setIfInBounds_toArray, List.set_cons_zero, List.set_cons_succ]
  refine wpAnyH_take (i := 2) (oi := _) (v := ?_) rfl (by kernel_rfl) (by kernel_rfl) (by kernel_rfl) (fun _ _ _ h => h) (Or.inl ⟨by rfl, ?_⟩) hHeld ?_
  rotate_left
  · intro w hSw; obtain ⟨⟨s0, s1⟩, s2, s3, s4⟩ := hSw; go_simp; try with_reducible rfl
  simp only [Act.put, List.getElem_toArray, List.getElem_cons_succ, List.getElem_cons_zero, List.setIfInBounds_toArray, List.set_cons_zero, List.set_cons_succ]
  refine wpAnyH_take (i := 3) (oi := _) (v := ?_) rfl (by kernel_rfl) (by kernel_rfl) (by kernel_rfl) (fun _ _ _ h => h) (Or.inl ⟨by rfl, ?_⟩) hHeld ?_
  rotate_left
  · intro w hSw; obtain ⟨⟨s0, s1⟩, s2, s3, s4⟩ := hSw; go_simp; try with_reducible rfl
  simp only [Act.put, List.getElem_toArray, List.getElem_cons_succ, List.getElem_cons_zero, List.setIfInBounds_toArray, List.set_cons_zero, List.set_cons_succ]
  refine wpAnyH_take (i := 4) (oi := _) (v := ?_) rfl (by kernel_rfl) (by kernel_rfl) (by kernel_rfl) (fun _ _ _ h => h) (Or.inl ⟨by rfl, ?_⟩) hHeld ?_
  rotate_left
  · intro w hSw; obtain ⟨⟨s0, s1⟩, s2, s3, s4⟩ := hSw; go_simp; try with_reducible rfl
  simp only [Act.put, List.getElem_toArray, List.getElem_cons_succ, List.getElem_cons_zero, List.setIfInBounds_toArray, List.set_cons_zero, List.set_cons_succ]
  refine wpAnyH_take (i := 5) (oi := _) (v := ?_) rfl (by kernel_rfl) (by kernel_rfl) (by kernel_rfl) (fun _ _ _ h => h) (Or.inl ⟨by rfl, ?_⟩) hHeld ?_
  rotate_left
  · intro w hSw; obtain ⟨⟨s0, s1⟩, s2, s3, s4⟩ := hSw; go_simp; try with_reducible rfl
  simp only [Act.put, List.getElem_toArray, List.getElem_cons_succ, List.getElem_cons_zero, List.setIfInBounds_toArray, List.set_cons_zero, List.set_cons_succ]
  refine wpAnyH_take (i := 6) (oi := _) (v := ?_) rfl (by kernel_rfl) (by kernel_rfl) (by kernel_rfl) (fun _ _ _ h => h) (Or.inl ⟨by rfl, ?_⟩) hHeld ?_
  rotate_left
  · intro w hSw; obtain ⟨⟨s0, s1⟩, s2, s3, s4⟩ := hSw; go_simp; try with_reducible rfl
  simp only [Act.put, List.getElem_toArray, List.getElem_cons_succ, List.getElem_cons_zero, List.setIfInBounds_toArray, List.set_cons_zero, List.set_cons_succ]
  refine wpAnyH_take (i := 7) (oi := _) (v := ?_) rfl (by kernel_rfl) (by kernel_rfl) (by kernel_rfl) (fun _ _ _ h => h) (Or.inl ⟨by rfl, ?_⟩) hHeld ?_
  rotate_left
  · intro w hSw; obtain ⟨⟨s0, s1⟩, s2, s3, s4⟩ := hSw; go_simp; try with_reducible rfl
  simp only [Act.put, List.getElem_toArray, List.getElem_cons_succ, List.getElem_cons_zero, List.setIfInBounds_toArray, List.set_cons_zero, List.set_cons_succ]
  refine wpAnyH_take (i := 8) (oi := _) (v := ?_) rfl (by kernel_rfl) (by kernel_rfl) (by kernel_rfl) (fun _ _ _ h => h) (Or.inl ⟨by rfl, ?_⟩) hHeld ?_
  rotate_left
  · intro w hSw; obtain ⟨⟨s0, s1⟩, s2, s3, s4⟩ := hSw; go_simp; try with_reducible rfl
  simp only [Act.put, List.getElem_toArray, List.getElem_cons_succ, List.getElem_cons_zero, List.setIfInBounds_toArray, List.set_cons_zero, List.set_cons_succ]
  refine wpAnyH_take (i := 9) (oi := _) (v := ?_) rfl (by kernel_rfl) (by kernel_rfl) (by kernel_rfl) (fun _ _ _ h => h) (Or.inl ⟨by rfl, ?_⟩) hHeld ?_
  rotate_left
  · intro w hSw; obtain ⟨⟨s0, s1⟩, s2, s3, s4⟩ := hSw; go_simp; try with_reducible rfl
  simp only [Act.put, List.getElem_toArray, List.getElem_cons_succ, List.getElem_cons_zero, List.setIfInBounds_toArray, List.set_cons_zero, List.set_cons_succ]
  refine wpAnyH_take (i := 10) (oi := _) (v := ?_) rfl (by kernel_rfl) (by kernel_rfl) (by kernel_rfl) (fun _ _ _ h => h) (Or.inl ⟨by rfl, ?_⟩) hHeld ?_
  rotate_left
  · intro w hSw; obtain ⟨⟨s0, s1⟩, s2, s3, s4⟩ := hSw; go_simp; try with_reducible rfl
  simp only [Act.put, List.getElem_toArray, List.getElem_cons_succ, List.getElem_cons_zero, List.setIfInBounds_toArray, List.set_cons_zero, List.set_cons_succ]
  refine wpAnyH_take (i := 11) (oi := _) (v := ?_) rfl (by kernel_rfl) (by kernel_rfl) (by kernel_rfl) (fun _ _ _ h => h) (Or.inl ⟨by rfl, ?_⟩) hHeld ?_
  rotate_left
  · intro w hSw; obtain ⟨⟨s0, s1⟩, s2, s3, s4⟩ := hSw; go_simp; try with_reducible rfl
  simp only [Act.put, List.getElem_toArray, List.getElem_cons_succ, List.getElem_cons_zero, List.setIfInBounds_toArray, List.set_cons_zero, List.set_cons_succ]
  refine wpAnyH_take (i := 12) (oi := _) (v := ?_) rfl (by kernel_rfl) (by kernel_rfl) (by kernel_rfl) (fun _ _ _ h => h) (Or.inl ⟨by rfl, ?_⟩) hHeld ?_
  rotate_left
  · intro w hSw; obtain ⟨⟨s0, s1⟩, s2, s3, s4⟩ := hSw; go_simp; try with_reducible rfl
  simp only [Act.put, List.getElem_toArray, List.getElem_cons_succ, List.getElem_cons_zero, List.setIfInBounds_toArray, List.set_cons_zero, List.set_cons_succ]
  refine wpAnyH_take (i := 13) (oi := _) (v := ?_) rfl (by kernel_rfl) (by kernel_rfl) (by kernel_rfl) (fun _ _ _ h => h) (Or.inl ⟨by rfl, ?_⟩) hHeld ?_
  rotate_left
  · intro w hSw; obtain ⟨⟨s0, s1⟩, s2, s3, s4⟩ := hSw; go_simp; try with_reducible rfl
  simp only [Act.put, List.getElem_toArray, List.getElem_cons_succ, List.getElem_cons_zero, List.setIfInBounds_toArray, List.set_cons_zero, List.set_cons_succ]
  refine wpAnyH_take (i := 14) (oi := _) (v := ?_) rfl (by kernel_rfl) (by kernel_rfl) (by kernel_rfl) (fun _ _ _ h => h) (Or.inl ⟨by rfl, ?_⟩) hHeld ?_
  rotate_left
  · intro w hSw; obtain ⟨⟨s0, s1⟩, s2, s3, s4⟩ := hSw; go_simp; try with_reducible rfl
  simp only [Act.put, List.getElem_toArray, List.getElem_cons_succ, List.getElem_cons_zero, List.setIfInBounds_toArray, List.set_cons_zero, List.set_cons_succ]
  refine wpAnyH_take (i := 15) (oi := _) (v := ?_) rfl (by kernel_rfl) (by kernel_rfl) (by kernel_rfl) (fun _ _ _ h => h) (Or.inl ⟨by rfl, ?_⟩) hHeld ?_
  rotate_left
  · intro w hSw; obtain ⟨⟨s0, s1⟩, s2, s3, s4⟩ := hSw; go_simp; try with_reducible rfl
  simp only [Act.put, List.getElem_toArray, List.getElem_cons_succ, List.getElem_cons_zero, List.setIfInBounds_toArray, List.set_cons_zero, List.set_cons_succ]
  refine wpAnyH_take (i := 16) (oi := _) (v := ?_) rfl (by kernel_rfl) (by kernel_rfl) (by kernel_rfl) (fun _ _ _ h => h) (Or.inl ⟨by rfl, ?_⟩) hHeld ?_
  rotate_left
  · intro w hSw; obtain ⟨⟨s0, s1⟩, s2, s3, s4⟩ := hSw; go_simp; try with_reducible rfl
  simp only [Act.put, List.getElem_toArray, List.getElem_cons_succ, List.getElem_cons_zero, List.setIfInBounds_toArray, List.set_cons_zero, List.set_cons_succ]
  refine wpAnyH_take (i := 17) (oi := _) (v := ?_) rfl (by kernel_rfl) (by kernel_rfl) (by kernel_rfl) (fun _ _ _ h => h) (Or.inl ⟨by rfl, ?_⟩) hHeld ?_
  rotate_left
  · intro w hSw; obtain ⟨⟨s0, s1⟩, s2, s3, s4⟩ := hSw; go_simp; try with_reducible rfl
  simp only [Act.put, List.getElem_toArray, List.getElem_cons_succ, List.getElem_cons_zero, List.setIfInBounds_toArray, List.set_cons_zero, List.set_cons_succ]
  refine wpAnyH_take (i := 18) (oi := _) (v := ?_) rfl (by kernel_rfl) (by kernel_rfl) (by kernel_rfl) (fun _ _ _ h => h) (Or.inl ⟨by rfl, ?_⟩) hHeld ?_
  rotate_left
  · intro w hSw; obtain ⟨⟨s0, s1⟩, s2, s3, s4⟩ := hSw; go_simp; try with_reducible rfl
  simp only [Act.put, List.getElem_toArray, List.getElem_cons_succ, List.getElem_cons_zero, List.setIfInBounds_toArray, List.set_cons_zero, List.set_cons_succ]
  refine wpAnyH_take (i := 19) (oi := _) (v := ?_) rfl (by kernel_rfl) (by kernel_rfl) (by kernel_rfl) (fun _ _ _ h => h) (Or.inl ⟨by rfl, ?_⟩) hHeld ?_
  rotate_left
  · intro w hSw; obtain ⟨⟨s0, s1⟩, s2, s3, s4⟩ := hSw; go_simp; try with_reducible rfl
  simp only [Act.put, List.getElem_toArray, List.getElem_cons_succ, List.getElem_cons_zero, List.setIfInBounds_toArray, List.set_cons_zero, List.set_cons_succ]
  refine wpAnyH_take (i := 20) (oi := _) (v := ?_) rfl (by kernel_rfl) (by kernel_rfl) (by kernel_rfl) (fun _ _ _ h => h) (Or.inl ⟨by rfl, ?_⟩) hHeld ?_
  rotate_left
  · intro w hSw; obtain ⟨⟨s0, s1⟩, s2, s3, s4⟩ := hSw; go_simp; try with_reducible rfl
  simp only [Act.put, List.getElem_toArray, List.getElem_cons_succ, List.getElem_cons_zero, List.setIfInBounds_toArray, List.set_cons_zero, List.set_cons_succ]
  refine wpAnyH_take (i := 21) (oi := _) (v := ?_) rfl (by kernel_rfl) (by kernel_rfl) (by kernel_rfl) (fun _ _ _ h => h) (Or.inl ⟨by rfl, ?_⟩) hHeld ?_
  rotate_left
  · intro w hSw; obtain ⟨⟨s0, s1⟩, s2, s3, s4⟩ := hSw; go_simp; try with_reducible rfl
  simp only [Act.put, List.getElem_toArray, List.getElem_cons_succ, List.getElem_cons_zero, List.setIfInBounds_toArray, List.set_cons_zero, List.set_cons_succ]
  refine wpAnyH_take (i := 22) (oi := _) (v := ?_) rfl (by kernel_rfl) (by kernel_rfl) (by kernel_rfl) (fun _ _ _ h => h) (Or.inl ⟨by rfl, ?_⟩) hHeld ?_
  rotate_left
  · intro w hSw; obtain ⟨⟨s0, s1⟩, s2, s3, s4⟩ := hSw; go_simp; try with_reducible rfl
  simp only [Act.put, List.getElem_toArray, List.getElem_cons_succ, List.getElem_cons_zero, List.setIfInBounds_toArray, List.set_cons_zero, List.set_cons_succ]
  refine wpAnyH_take (i := 23) (oi := _) (v := ?_) rfl (by kernel_rfl) (by kernel_rfl) (by kernel_rfl) (fun _ _ _ h => h) (Or.inl ⟨by rfl, ?_⟩) hHeld ?_
  rotate_left
  · intro w hSw; obtain ⟨⟨s0, s1⟩, s2, s3, s4⟩ := hSw; go_simp; try with_reducible rfl
  simp only [Act.put, List.getElem_toArray, List.getElem_cons_succ, List.getElem_cons_zero, List.setIfInBounds_toArray, List.set_cons_zero, List.set_cons_succ]
  refine wpAnyH_take (i := 24) (oi := _) (v := ?_) rfl (by kernel_rfl) (by kernel_rfl) (by kernel_rfl) (fun _ _ _ h => h) (Or.inl ⟨by rfl, ?_⟩) hHeld ?_
  rotate_left
  · intro w hSw; obtain ⟨⟨s0, s1⟩, s2, s3, s4⟩ := hSw; go_simp; try with_reducible rfl
  simp only [Act.put, List.getElem_toArray, List.getElem_cons_succ, List.getElem_cons_zero, List.setIfInBounds_toArray, List.set_cons_zero, List.set_cons_succ]
  refine wpAnyH_take (i := 25) (oi := _) (v := ?_) rfl (by kernel_rfl) (by kernel_rfl) (by kernel_rfl) (fun _ _ _ h => h) (Or.inl ⟨by rfl, ?_⟩) hHeld ?_
  rotate_left
  · intro w hSw; obtain ⟨⟨s0, s1⟩, s2, s3, s4⟩ := hSw; go_simp; try with_reducible rfl
  simp only [Act.put, List.getElem_toArray, List.getElem_cons_succ, List.getElem_cons_zero, List.setIfInBounds_toArray, List.set_cons_zero, List.set_cons_succ]
  refine wpAnyH_take (i := 26) (oi := _) (v := ?_) rfl (by kernel_rfl) (by kernel_rfl) (by kernel_rfl) (fun _ _ _ h => h) (Or.inl ⟨by rfl, ?_⟩) hHeld ?_
  rotate_left
  · intro w hSw; obtain ⟨⟨s0, s1⟩, s2, s3, s4⟩ := hSw; go_simp; try with_reducible rfl
  simp only [Act.put, List.getElem_toArray, List.getElem_cons_succ, List.getElem_cons_zero, List.setIfInBounds_toArray, List.set_cons_zero, List.set_cons_succ]
  refine wpAnyH_take (i := 27) (oi := _) (v := ?_) rfl (by kernel_rfl) (by kernel_rfl) (by kernel_rfl) (fun _ _ _ h => h) (Or.inl ⟨by rfl, ?_⟩) hHeld ?_
  rotate_left
  · intro w hSw; obtain ⟨⟨s0, s1⟩, s2, s3, s4⟩ := hSw; go_simp; try with_reducible rfl
  simp only [Act.put, List.getElem_toArray, List.getElem_cons_succ, List.getElem_cons_zero, List.setIfInBounds_toArray, List.set_cons_zero, List.set_cons_succ]
  refine wpAnyH_take (i := 28) (oi := _) (v := ?_) rfl (by kernel_rfl) (by kernel_rfl) (by kernel_rfl) (fun _ _ _ h => h) (Or.inl ⟨by rfl, ?_⟩) hHeld ?_
  rotate_left
  · intro w hSw; obtain ⟨⟨s0, s1⟩, s2, s3, s4⟩ := hSw; go_simp; try with_reducible rfl
  simp only [Act.put, List.getElem_toArray, List.getElem_cons_succ, List.getElem_cons_zero, List.setIfInBounds_toArray, List.set_cons_zero, List.set_cons_succ]
  refine wpAnyH_take (i := 29) (oi := _) (v := ?_) rfl (by kernel_rfl) (by kernel_rfl) (by kernel_rfl) (fun _ _ _ h => h) (Or.inl ⟨by rfl, ?_⟩) hHeld ?_
  rotate_left
  · intro w hSw; obtain ⟨⟨s0, s1⟩, s2, s3, s4⟩ := hSw; go_simp; try with_reducible rfl
  simp only [Act.put, List.getElem_toArray, List.getElem_cons_succ, List.getElem_cons_zero, List.setIfInBounds_toArray, List.set_cons_zero, List.set_cons_succ]
  refine wpAnyH_take (i := 30) (oi := _) (v := ?_) rfl (by kernel_rfl) (by kernel_rfl) (by kernel_rfl) (fun _ _ _ h => h) (Or.inl ⟨by rfl, ?_⟩) hHeld ?_
  rotate_left
  · intro w hSw; obtain ⟨⟨s0, s1⟩, s2, s3, s4⟩ := hSw; go_simp; try with_reducible rfl
  simp only [Act.put, List.getElem_toArray, List.getElem_cons_succ, List.getElem_cons_zero, List.setIfInBounds_toArray, List.set_cons_zero, List.set_cons_succ]
  refine wpAnyH_take (i := 31) (oi := _) (v := ?_) rfl (by kernel_rfl) (by kernel_rfl) (by kernel_rfl) (fun _ _ _ h => h) (Or.inl ⟨by rfl, ?_⟩) hHeld ?_
  rotate_left
  · intro w hSw; obtain ⟨⟨s0, s1⟩, s2, s3, s4⟩ := hSw; go_simp; try with_reducible rfl
  simp only [Act.put, List.getElem_toArray, List.getElem_cons_succ, List.getElem_cons_zero, List.setIfInBounds_toArray, List.set_cons_zero, List.set_cons_succ]
  refine wpAnyH_take (i := 32) (oi := _) (v := ?_) rfl (by kernel_rfl) (by kernel_rfl) (by kernel_rfl) (fun _ _ _ h => h) (Or.inl ⟨by rfl, ?_⟩) hHeld ?_
  rotate_left
  · intro w hSw; obtain ⟨⟨s0, s1⟩, s2, s3, s4⟩ := hSw; go_simp; try with_reducible rfl
  simp only [Act.put, List.getElem_toArray, List.getElem_cons_succ, List.getElem_cons_zero, List.setIfInBounds_toArray, List.set_cons_zero, List.set_cons_succ]
  refine wpAnyH_take (i := 33) (oi := _) (v := ?_) rfl (by kernel_rfl) (by kernel_rfl) (by kernel_rfl) (fun _ _ _ h => h) (Or.inl ⟨by rfl, ?_⟩) hHeld ?_
  rotate_left
  · intro w hSw; obtain ⟨⟨s0, s1⟩, s2, s3, s4⟩ := hSw; go_simp; try with_reducible rfl
  simp only [Act.put, List.getElem_toArray, List.getElem_cons_succ, List.getElem_cons_zero, List.setIfInBounds_toArray, List.set_cons_zero, List.set_cons_succ]
  refine wpAnyH_take (i := 34) (oi := _) (v := ?_) rfl (by kernel_rfl) (by kernel_rfl) (by kernel_rfl) (fun _ _ _ h => h) (Or.inl ⟨by rfl, ?_⟩) hHeld ?_
  rotate_left
  · intro w hSw; obtain ⟨⟨s0, s1⟩, s2, s3, s4⟩ := hSw; go_simp; try with_reducible rfl
  simp only [Act.put, List.getElem_toArray, List.getElem_cons_succ, List.getElem_cons_zero, List.setIfInBounds_toArray, List.set_cons_zero, List.set_cons_succ]
  refine wpAnyH_take (i := 35) (oi := _) (v := ?_) rfl (by kernel_rfl) (by kernel_rfl) (by kernel_rfl) (fun _ _ _ h => h) (Or.inl ⟨by rfl, ?_⟩) hHeld ?_
  rotate_left
  · intro w hSw; obtain ⟨⟨s0, s1⟩, s2, s3, s4⟩ := hSw; go_simp; try with_reducible rfl
  simp only [Act.put, List.getElem_toArray, List.getElem_cons_succ, List.getElem_cons_zero, List.setIfInBounds_toArray, List.set_cons_zero, List.set_cons_succ]
  refine wpAnyH_take (i := 36) (oi := _) (v := ?_) rfl (by kernel_rfl) (by kernel_rfl) (by kernel_rfl) (fun _ _ _ h => h) (Or.inl ⟨by rfl, ?_⟩) hHeld ?_
  rotate_left
  · intro w hSw; obtain ⟨⟨s0, s1⟩, s2, s3, s4⟩ := hSw; go_simp; try with_reducible rfl
  simp only [Act.put, List.getElem_toArray, List.getElem_cons_succ, List.getElem_cons_zero, List.setIfInBounds_toArray, List.set_cons_zero, List.set_cons_succ]
  refine wpAnyH_take (i := 37) (oi := _) (v := ?_) rfl (by kernel_rfl) (by kernel_rfl) (by kernel_rfl) (fun _ _ _ h => h) (Or.inl ⟨by rfl, ?_⟩) hHeld ?_
  rotate_left
  · intro w hSw; obtain ⟨⟨s0, s1⟩, s2, s3, s4⟩ := hSw; go_simp; try with_reducible rfl
  simp only [Act.put, List.getElem_toArray, List.getElem_cons_succ, List.getElem_cons_zero, List.setIfInBounds_toArray, List.set_cons_zero, List.set_cons_succ]
  refine wpAnyH_ready (rs := [38]) (by kernel_rfl) (by simp) (AllReadyH.cons (o := _) rfl (fun K hK => ?_) AllReadyH.nil)
  go_simp
  with_reducible refine (ceq _ (Below.refl _ _).drew).mono ?_
  rintro en w7 ⟨rfl, hb7⟩
  have hb07 : Below X6.heap.size X6 w7 := (Below.refl _ _).drew.trans hb7
  refine hK.out _ _ ⟨⟨cell_below' hb07 q6 (World.block_lt_of_cell? X6 _ q6), cell_below' hb07 q7 (World.block_lt_of_cell? X6 _ q7)⟩, cell_below' hb07 c2 (World.block_lt_of_cell? X6 _ c2), cell_below' hb07 ge (World.block_lt_of_cell? X6 _ ge), cell_below' hb07 r2 (World.block_lt_of_cell? X6 _ r2)⟩ (fun hHeld => ?_)
  clear hK K
  try simp only [Act.put, List.getElem_toArray, List.getElem_cons_succ, List.getElem_cons_zero, List.setIfInBounds_toArray, List.set_cons_zero, List.set_cons_succ]
  refine wpAnyH_take (i := 39) (oi := _) (v := ?_) rfl (by kernel_rfl) (by kernel_rfl) (by kernel_rfl) (fun _ _ _ h => h) (Or.inl ⟨by rfl, ?_⟩) hHeld ?_
  rotate_left
  · intro w hSw; obtain ⟨⟨s0, s1⟩, s2, s3, s4⟩ := hSw; go_simp; try with_reducible rfl
  simp only [Act.put, List.getElem_toArray, List.getElem_cons_succ, List.getElem_cons_zero, List.setIfInBounds_toArray, List.set_cons_zero, List.set_cons_succ]
  refine wpAnyH_take (i := 40) (oi := _) (v := ?_) rfl (by kernel_rfl) (by kernel_rfl) (by kernel_rfl) (fun _ _ _ h => h) (Or.inl ⟨by rfl, ?_⟩) hHeld ?_
  rotate_left
  · intro w hSw; obtain ⟨⟨s0, s1⟩, s2, s3, s4⟩ := hSw; go_simp; try with_reducible rfl
  simp only [Act.put, List.getElem_toArray, List.getElem_cons_succ, List.getElem_cons_zero, List.setIfInBounds_toArray, List.set_cons_zero, List.set_cons_succ]
  refine wpAnyH_done (by kernel_rfl) ?_ _
  clear hHeld q6 q7 c2 ge r2 ceq
  go_wp2_with fail
  try go_ret
  first | (rw [← HPO.out]; exact ⟨rfl, HW6.out.trans (hb07.mono HW6.out.size)⟩) | (trace_state; fail)
end Go.Proofs.Ytbcbknajhdaneaa
