/- What is proved: ShiftBack's walk. -/
import Derived.Test.YtbcbknajhdaneaaVSg1
import Derived.Test.YtbcbknajhdaneaaVSf1
import Derived.Test.YtbcbknajhdaneaaVSd1
import Derived.Deep.CutRange
import Derived.Deep.CutBlock
namespace Go.Proofs.Ytbcbknajhdaneaa
open Go.RowKit Go.Maps
set_option linter.unusedVariables false
set_option linter.unusedSimpArgs false
theorem back_pack {a b : Tab} {row : Int} (h0 : mvE a b row = 0) (hwa : ∀ x ∈ a.es, Word x) (hwb : ∀ x ∈ b.es, Word x) (na : NL a) (nb : NL b) (hEb : b.es.length = b.En) (hle : a.es.length ≤ 60000)
    (pa : PSm a.p) (pb : PSm b.p) (la : a.es.length ≤ 30) (lb : b.es.length ≤ 30) (tf tt : Tab) (hpf : tf.p = mvF a b row) (hpt : tt.p = mvT a b row) (nf : NL tf) (nt : NL tt) :
    tabE tf = 0 ∧ tabE tt = 0 ∧ tf.es.length + tt.es.length = a.es.length + b.es.length ∧ mvE tt tf (mvR a b row) = 0 ∧ mvF tt tf (mvR a b row) = b.p ∧ shE a b = 0 ∧ PSm tf.p ∧ PSm tt.p ∧
    ∀ u : Tab, NL u → u.p = mvT tt tf (mvR a b row) → PSm u.p ∧ ∀ (i : Nat) (who : Int), a.es[i]? = some who →
      rowK u who = true ∧ ∃ k : Nat, rowI u who = (k : Int) ∧ ∀ (c : Nat) (id : Int), a.ty[c]? = some id → tgE a (i : Int) id = 0 ∧ tgE u (k : Int) id = 0 ∧ (tgL a (i : Int) id).length ≤ 4 ∧
        tgL u (k : Int) id = if (i : Int) = row ∧ b.ty.contains id = false then zerosL (tgL a (i : Int) id).length else tgL a (i : Int) id := by
  obtain ⟨b1, b2, b3⟩ := back_b h0 hwa hwb na nb nf nt hEb hpf hpt hle
  have hE := back_mvE h0 hwa hwb na nb nf nt hEb hpf hpt hle
  have hF := back_from h0 hwa hwb na nb nf nt hEb hpf hpt hle
  obtain ⟨h1, h2, _⟩ := mv_zero h0
  have pp := mv_psm hwa hpf hpt na nb nf nt pa pb la lb
  have hFf : tf.F.length ≤ 65535 := by have h9 := pp.1.2.1; unfold Tab.p at h9; simpa using h9
  have hGt : tt.F.length ≤ 65535 := by have h9 := pp.2.2.1; unfold Tab.p at h9; simpa using h9
  refine ⟨by unfold tabE; rw [b1, if_pos rfl], by unfold tabE; rw [b2, if_pos rfl], b3, hE, hF, by unfold shE; rw [h1, h2]; rfl, pp.1, pp.2, fun u nu hu => ⟨?_, fun i who hi => back_vals h0 hwa hwb na nb nf nt hEb hpf hpt hle nu hu hi⟩⟩
  have hwt : ∀ x ∈ tt.es, Word x := fun x hx => by
    obtain ⟨q, m, rfl, hlen, hqm, _, hS, hT, _⟩ := move_all h0 hwa hwb na nb nf nt hEb hpf hpt hle
    rw [hT.es] at hx
    rcases List.mem_append.1 hx with hx | hx
    · exact hwb x hx
    · rw [List.mem_singleton] at hx; subst hx
      exact hwa _ (List.mem_of_getElem? (idAt_of (l := a.es) (k := q) (by omega)))
  have nb2 : NL (ofP b.p) := ofP_nl _
  obtain ⟨_, c2⟩ := moved_bd hE hwt (hF.symm ▸ ofP_p b.p) hu nt nf nb2 nu (a := 70) (b := 70) ⟨b2, pp.2.1, hGt, by omega⟩ ⟨b1, pp.1.1, hFf, by omega⟩
  exact c2.psm (by omega) nu
theorem keepL_in {b l : List Int} {x : Int} {k : Nat} (h : l[k]? = some x) : (keepL b l).contains x = !(b.contains x) := by
  unfold keepL
  cases hb : b.contains x with
  | false =>
    have : x ∈ l.filter (fun x => !b.contains x) := List.mem_filter.2 ⟨List.mem_of_getElem? h, by rw [hb]; rfl⟩
    simpa using this
  | true =>
    cases hc : (l.filter (fun x => !b.contains x)).contains x with
    | false => rfl
    | true =>
      have hm : x ∈ l.filter (fun x => !b.contains x) := by simpa using hc
      have := (List.mem_filter.1 hm).2
      rw [hb] at this
      cases this
set_option maxRecDepth 100000 in
set_option maxHeartbeats 16000000 in
theorem back_walk (x y : Tab) (row : Int) (w : World) (hx : TabOk w w.heap.size x) (hy : TabOk w w.heap.size y) :
    Calls Try.prog 12 #[x.V, y.V, .int .i64 row] w fun e w' => e = .returned (.bool true) ∧ Below w.heap.size w w' := by
  obtain ⟨W0, hW0, hB, hsz, k0, k1⟩ := two_blk w 25 25 #[.slice x.TA x.Tn x.Tc, .slice x.CA x.Cn x.Cc, .slice x.EA x.En x.Ec] #[.slice y.TA y.Tn y.Tc, .slice y.CA y.Cn y.Cc, .slice y.EA y.En y.Ec]
  have hTx := fun (W : World) (h : Below W0.heap.size W0 W) => (hx.keep (hB.trans (h.mono hB.size))).more (hB.trans (h.mono hB.size)).size
  have hTy := fun (W : World) (h : Below W0.heap.size W0 W) => (hy.keep (hB.trans (h.mono hB.size))).more (hB.trans (h.mono hB.size)).size
  have cwk := fun W => wakes11_any W
  have HW := Lib.hid hW0
  have HB := Lib.hid hB
  have HK := Lib.hid (fun (W : World) (h : Below W0.heap.size W0 W) => And.intro (blk_cells3 (blk_below k0 h)).1 (blk_cells3 (blk_below k1 h)).1)
  have HTX := Lib.hid hTx
  have HTY := Lib.hid hTy
  generalize hpost : (fun e w' => e = Ending.returned (.bool true) ∧ Below w.heap.size w w') = POST
  have HPO := Lib.hid hpost
  unfold Tab.V
  clear hW0 hsz k0 k1 hx hy hB hTx hTy hpost
  go_enter Try.func12, Try.ntmps12
  go_upto_region 1 with fail
  rw [← HW.out]
  go_upto_region 3 with (first
    | (go_at_call 48; ((with_reducible refine (cwk _).mono ?_); rintro en W2 ⟨rfl, hbw⟩))
    | fail)
  have cx := fun (W : World) (h : Below W2.heap.size W2 W) => own11_any x W (HTX.out W (hbw.trans (h.mono hbw.size)))
  have cy := fun (W : World) (h : Below W2.heap.size W2 W) => own11_any y W (HTY.out W (hbw.trans (h.mono hbw.size)))
  unfold OwnT at cx cy
  unfold Tab.V at cx cy
  have HS := Lib.hid (fun (W : World) (h : Below W2.heap.size W2 W) => HK.out W (hbw.trans (h.mono hbw.size)))
  have hx0 := HS.out W2 (Below.refl _ _)
  have HBW := Lib.hid (HB.out.trans (hbw.mono HB.out.size))
  clear hbw cwk
  go_cut [7, 8] from 26 to 29 (fun s5 s6 wx => OwnAB W2 (ownQ x.p) (ownQ y.p) s5 s6 wx)
  case first =>
    refine wp_region_stop 7 (fun b w' => match b with | true => True | false => (w'.cell? ⟨w.heap.size, 0, none⟩ = some (.slice x.TA x.Tn x.Tc) ∧ w'.cell? ⟨w.heap.size, 1, none⟩ = some (.slice x.CA x.Cn x.Cc) ∧ w'.cell? ⟨w.heap.size, 2, none⟩ = some (.slice x.EA x.En x.Ec)) ∧ (w'.cell? ⟨w.heap.size + 1, 0, none⟩ = some (.slice y.TA y.Tn y.Tc) ∧ w'.cell? ⟨w.heap.size + 1, 1, none⟩ = some (.slice y.CA y.Cn y.Cc) ∧ w'.cell? ⟨w.heap.size + 1, 2, none⟩ = some (.slice y.EA y.En y.Ec))) (by kernel_rfl) hx0 (fun hHeld => ?_)
    obtain ⟨Y0, hY0⟩ : ∃ Y0, Y0 = W2.drew := ⟨_, rfl⟩
    have hb : Below W2.heap.size W2 Y0 := by rw [hY0]; exact (Below.refl _ _).drew
    rw [← hY0] at hHeld
    rw [← hY0]
    clear hY0 hx0
    refine wpAnyS_take (i := 0) (oi := _) (v := ?_) rfl (by kernel_rfl) (by kernel_rfl) (by kernel_rfl) (by kernel_rfl) (by kernel_rfl) (fun _ _ _ h => h) (Or.inl ⟨by rfl, ?_⟩) hHeld ?_
    rotate_left
    · intro w hSw; obtain ⟨⟨s0, s1, s2⟩, s3, s4, s5⟩ := hSw; go_simp; try with_reducible rfl
    simp only [Act.put, List.getElem_toArray, List.getElem_cons_succ, List.getElem_cons_zero, List.setIfInBounds_toArray, List.set_cons_zero, List.set_cons_succ]
    refine wpAnyS_take (i := 2) (oi := _) (v := ?_) rfl (by kernel_rfl) (by kernel_rfl) (by kernel_rfl) (by kernel_rfl) (by kernel_rfl) (fun _ _ _ h => h) (Or.inl ⟨by rfl, ?_⟩) hHeld ?_
    rotate_left
    · intro w hSw; obtain ⟨⟨s0, s1, s2⟩, s3, s4, s5⟩ := hSw; go_simp; try with_reducible rfl
    simp only [Act.put, List.getElem_toArray, List.getElem_cons_succ, List.getElem_cons_zero, List.setIfInBounds_toArray, List.set_cons_zero, List.set_cons_succ]

    refine wpAnyS_ready (rs := [1, 4, 5]) (by kernel_rfl) (by simp) (AllReadyS.cons false (by kernel_rfl) (o := _) rfl (fun K hK => ?_) (AllReadyS.cons false (by kernel_rfl) (o := _) rfl (fun K hK => ?_) (AllReadyS.cons false (by kernel_rfl) (o := _) rfl (fun K hK => ?_) AllReadyS.nil)))
    · skip
      go_simp
      with_reducible refine (cx _ hb).mono ?_
      rintro en Y0p ⟨ta, rfl, hpa, hfa, hst⟩
      (try unfold Tab.V)
      have hfa := hfa.base hb.size
      have hb := hb.trans (hst.mono hb.size)
      refine hK.out _ _ (HS.out _ hb) (fun hHeld => ?_)
      clear hK K hst
      try simp only [Act.put, List.getElem_toArray, List.getElem_cons_succ, List.getElem_cons_zero, List.setIfInBounds_toArray, List.set_cons_zero, List.set_cons_succ]

      refine wpAnyS_ready (rs := [3, 4, 5]) (by kernel_rfl) (by simp) (AllReadyS.cons false (by kernel_rfl) (o := _) rfl (fun K hK => ?_) (AllReadyS.cons false (by kernel_rfl) (o := _) rfl (fun K hK => ?_) (AllReadyS.cons false (by kernel_rfl) (o := _) rfl (fun K hK => ?_) AllReadyS.nil)))
      · skip
        go_simp
        with_reducible refine (cy _ hb).mono ?_
        rintro en Y0pq ⟨tb, rfl, hpb, hfb, hst⟩
        (try unfold Tab.V)
        have hfb := hfb.base hb.size
        have hfa := hfa.below hst
        have hb := hb.trans (hst.mono hb.size)
        refine hK.out _ _ (HS.out _ hb) (fun hHeld => ?_)
        clear hK K hst
        try simp only [Act.put, List.getElem_toArray, List.getElem_cons_succ, List.getElem_cons_zero, List.setIfInBounds_toArray, List.set_cons_zero, List.set_cons_succ]

        refine wpAnyS_ready (rs := [4, 5]) (by kernel_rfl) (by simp) (AllReadyS.cons false (by kernel_rfl) (o := _) rfl (fun K hK => ?_) (AllReadyS.cons false (by kernel_rfl) (o := _) rfl (fun K hK => ?_) AllReadyS.nil))
        · skip
          go_simp
          obtain ⟨Y0pqA, hnx⟩ : ∃ Y, Y = Y0pq.alloc (.cells #[.slice none 0 0, .slice none 0 0, .slice none 0 0] 25) := ⟨_, rfl⟩
          have hst : Below Y0pq.heap.size Y0pq Y0pqA := by rw [hnx]; exact (Below.refl _ _).alloc (Nat.le_refl _) _
          have hkA : Blk Y0pqA Y0pq.heap.size 25 #[.slice none 0 0, .slice none 0 0, .slice none 0 0] := by rw [hnx]; exact Blk.new Y0pq _ _
          have hlA : W2.heap.size ≤ Y0pq.heap.size := hb.size
          have hfa := hfa.below hst
          have hfb := hfb.below hst
          have hb := hb.trans (hst.mono hb.size)
          rw [← hnx]

          generalize Y0pq.heap.size = bA at *
          refine hK.out _ _ (HS.out _ hb) (fun hHeld => ?_)
          clear hK K hst hnx
          try simp only [Act.put, List.getElem_toArray, List.getElem_cons_succ, List.getElem_cons_zero, List.setIfInBounds_toArray, List.set_cons_zero, List.set_cons_succ]

          refine wpAnyS_ready (rs := [5]) (by kernel_rfl) (by simp) (AllReadyS.cons false (by kernel_rfl) (o := _) rfl (fun K hK => ?_) AllReadyS.nil)
          go_simp
          obtain ⟨Y0pqAB, hnx⟩ : ∃ Y, Y = Y0pqA.alloc (.cells #[.slice none 0 0, .slice none 0 0, .slice none 0 0] 25) := ⟨_, rfl⟩
          have hst : Below Y0pqA.heap.size Y0pqA Y0pqAB := by rw [hnx]; exact (Below.refl _ _).alloc (Nat.le_refl _) _
          have hkB : Blk Y0pqAB Y0pqA.heap.size 25 #[.slice none 0 0, .slice none 0 0, .slice none 0 0] := by rw [hnx]; exact Blk.new Y0pqA _ _
          have hlB : W2.heap.size ≤ Y0pqA.heap.size := hb.size
          have hfa := hfa.below hst
          have hfb := hfb.below hst
          have hkA0 := hkA
          have hkA := blk_below hkA hst
          have hb := hb.trans (hst.mono hb.size)
          rw [← hnx]
          have hAB : bA < Y0pqA.heap.size := hkA0.lt
          generalize Y0pqA.heap.size = bB at *
          refine hK.out _ _ (HS.out _ hb) (fun hHeld => ?_)
          clear hK K hst hnx
          try simp only [Act.put, List.getElem_toArray, List.getElem_cons_succ, List.getElem_cons_zero, List.setIfInBounds_toArray, List.set_cons_zero, List.set_cons_succ]

          generalize Y0pqAB = Y at *
          have hne : bA ≠ bB := by omega
          obtain ⟨⟨t0, t1, t2⟩, zf⟩ := blk_cells3 hkA
          have zf0 := zf 0
          have zf1 := zf 1
          have zf2 := zf 2
          clear zf
          refine wpAnyS_ready (rs := [6]) (by kernel_rfl) (by simp) (AllReadyS.cons false (by kernel_rfl) (o := _) rfl (fun K hK => ?_) AllReadyS.nil)
          go_simp
          obtain ⟨x6, hx6⟩ : ∃ x6, x6 = set3 Y bA (.slice ta.TA ta.Tn ta.Tc) (.slice ta.CA ta.Cn ta.Cc) (.slice ta.EA ta.En ta.Ec) := ⟨_, rfl⟩
          have j0 := set3_blk hkA (.slice ta.TA ta.Tn ta.Tc) (.slice ta.CA ta.Cn ta.Cc) (.slice ta.EA ta.En ta.Ec)
          have j1 := set3_far (g := bA) hkB (fun e => hne e.symm) (.slice ta.TA ta.Tn ta.Tc) (.slice ta.CA ta.Cn ta.Cc) (.slice ta.EA ta.En ta.Ec)
          have jk := set3_keep hkA (.slice ta.TA ta.Tn ta.Tc) (.slice ta.CA ta.Cn ta.Cc) (.slice ta.EA ta.En ta.Ec)
          have jb := hb.trans (set3_below (W := Y) (B := W2.heap.size) (g := bA) (by omega) (.slice ta.TA ta.Tn ta.Tc) (.slice ta.CA ta.Cn ta.Cc) (.slice ta.EA ta.En ta.Ec))
          rw [← hx6] at j0 j1 jk jb
          change K _ (set3 Y bA (.slice ta.TA ta.Tn ta.Tc) (.slice ta.CA ta.Cn ta.Cc) (.slice ta.EA ta.En ta.Ec))
          rw [← hx6]
          clear t0 t1 t2 zf0 zf1 zf2 hx6
          obtain ⟨⟨t0, t1, t2⟩, zf⟩ := blk_cells3 j1
          have zf0 := zf 0
          have zf1 := zf 1
          have zf2 := zf 2
          clear zf
          refine hK.out _ _ (HS.out _ jb) (fun hHeld => ?_)
          clear hK K
          try simp only [Act.put, List.getElem_toArray, List.getElem_cons_succ, List.getElem_cons_zero, List.setIfInBounds_toArray, List.set_cons_zero, List.set_cons_succ]
          refine wpAnyS_ready (rs := [7]) (by kernel_rfl) (by simp) (AllReadyS.cons true (by kernel_rfl) (o := _) rfl (fun K hK => ?_) AllReadyS.nil)
          go_simp
          obtain ⟨x7, hx7⟩ : ∃ x7, x7 = set3 x6 bB (.slice tb.TA tb.Tn tb.Tc) (.slice tb.CA tb.Cn tb.Cc) (.slice tb.EA tb.En tb.Ec) := ⟨_, rfl⟩
          have hres : OwnAB W2 (ownQ x.p) (ownQ y.p) (.pointer (some ⟨bA, 0, none⟩)) (.pointer (some ⟨bB, 0, none⟩)) x7 := by
            have ik := jk.trans (set3_keep j1 (.slice tb.TA tb.Tn tb.Tc) (.slice tb.CA tb.Cn tb.Cc) (.slice tb.EA tb.En tb.Ec))
            have ib := jb.trans (set3_below (W := x6) (B := W2.heap.size) (g := bB) (by omega) (.slice tb.TA tb.Tn tb.Tc) (.slice tb.CA tb.Cn tb.Cc) (.slice tb.EA tb.En tb.Ec))
            have i0 := set3_far (g := bB) j0 hne (.slice tb.TA tb.Tn tb.Tc) (.slice tb.CA tb.Cn tb.Cc) (.slice tb.EA tb.En tb.Ec)
            have i1 := set3_blk j1 (.slice tb.TA tb.Tn tb.Tc) (.slice tb.CA tb.Cn tb.Cc) (.slice tb.EA tb.En tb.Ec)
            rw [← hx7] at ik ib i0 i1
            exact ⟨bA, bB, ta, tb, rfl, rfl, hpa, hpb, i0, i1, hfa.keep ik, hfb.keep ik, ib⟩
          change K _ (set3 x6 bB (.slice tb.TA tb.Tn tb.Tc) (.slice tb.CA tb.Cn tb.Cc) (.slice tb.EA tb.En tb.Ec))
          rw [← hx7]
          have HRES := Lib.hid hres
          clear t0 t1 t2 zf0 zf1 zf2 hx7 hres
          refine hK.out _ _ trivial (fun hHeld => ?_)
          clear hK K
          try simp only [Act.put, List.getElem_toArray, List.getElem_cons_succ, List.getElem_cons_zero, List.setIfInBounds_toArray, List.set_cons_zero, List.set_cons_succ]
          refine wpAnyS_done (by kernel_rfl) ?_ _
          clear hHeld j0 j1 jk jb hfa hfb hkA hkB hpa hpb
          go_wp2_with fail
          go_meet
          case rel => exact HRES.out

        · skip
          go_simp
          obtain ⟨Y0pqB, hnx⟩ : ∃ Y, Y = Y0pq.alloc (.cells #[.slice none 0 0, .slice none 0 0, .slice none 0 0] 25) := ⟨_, rfl⟩
          have hst : Below Y0pq.heap.size Y0pq Y0pqB := by rw [hnx]; exact (Below.refl _ _).alloc (Nat.le_refl _) _
          have hkB : Blk Y0pqB Y0pq.heap.size 25 #[.slice none 0 0, .slice none 0 0, .slice none 0 0] := by rw [hnx]; exact Blk.new Y0pq _ _
          have hlB : W2.heap.size ≤ Y0pq.heap.size := hb.size
          have hfa := hfa.below hst
          have hfb := hfb.below hst
          have hb := hb.trans (hst.mono hb.size)
          rw [← hnx]

          generalize Y0pq.heap.size = bB at *
          refine hK.out _ _ (HS.out _ hb) (fun hHeld => ?_)
          clear hK K hst hnx
          try simp only [Act.put, List.getElem_toArray, List.getElem_cons_succ, List.getElem_cons_zero, List.setIfInBounds_toArray, List.set_cons_zero, List.set_cons_succ]

          refine wpAnyS_ready (rs := [4]) (by kernel_rfl) (by simp) (AllReadyS.cons false (by kernel_rfl) (o := _) rfl (fun K hK => ?_) AllReadyS.nil)
          go_simp
          obtain ⟨Y0pqBA, hnx⟩ : ∃ Y, Y = Y0pqB.alloc (.cells #[.slice none 0 0, .slice none 0 0, .slice none 0 0] 25) := ⟨_, rfl⟩
          have hst : Below Y0pqB.heap.size Y0pqB Y0pqBA := by rw [hnx]; exact (Below.refl _ _).alloc (Nat.le_refl _) _
          have hkA : Blk Y0pqBA Y0pqB.heap.size 25 #[.slice none 0 0, .slice none 0 0, .slice none 0 0] := by rw [hnx]; exact Blk.new Y0pqB _ _
          have hlA : W2.heap.size ≤ Y0pqB.heap.size := hb.size
          have hfa := hfa.below hst
          have hfb := hfb.below hst
          have hkB0 := hkB
          have hkB := blk_below hkB hst
          have hb := hb.trans (hst.mono hb.size)
          rw [← hnx]
          have hAB : bB < Y0pqB.heap.size := hkB0.lt
          generalize Y0pqB.heap.size = bA at *
          refine hK.out _ _ (HS.out _ hb) (fun hHeld => ?_)
          clear hK K hst hnx
          try simp only [Act.put, List.getElem_toArray, List.getElem_cons_succ, List.getElem_cons_zero, List.setIfInBounds_toArray, List.set_cons_zero, List.set_cons_succ]

          generalize Y0pqBA = Y at *
          have hne : bA ≠ bB := by omega
          obtain ⟨⟨t0, t1, t2⟩, zf⟩ := blk_cells3 hkA
          have zf0 := zf 0
          have zf1 := zf 1
          have zf2 := zf 2
          clear zf
          refine wpAnyS_ready (rs := [6]) (by kernel_rfl) (by simp) (AllReadyS.cons false (by kernel_rfl) (o := _) rfl (fun K hK => ?_) AllReadyS.nil)
          go_simp
          obtain ⟨x6, hx6⟩ : ∃ x6, x6 = set3 Y bA (.slice ta.TA ta.Tn ta.Tc) (.slice ta.CA ta.Cn ta.Cc) (.slice ta.EA ta.En ta.Ec) := ⟨_, rfl⟩
          have j0 := set3_blk hkA (.slice ta.TA ta.Tn ta.Tc) (.slice ta.CA ta.Cn ta.Cc) (.slice ta.EA ta.En ta.Ec)
          have j1 := set3_far (g := bA) hkB (fun e => hne e.symm) (.slice ta.TA ta.Tn ta.Tc) (.slice ta.CA ta.Cn ta.Cc) (.slice ta.EA ta.En ta.Ec)
          have jk := set3_keep hkA (.slice ta.TA ta.Tn ta.Tc) (.slice ta.CA ta.Cn ta.Cc) (.slice ta.EA ta.En ta.Ec)
          have jb := hb.trans (set3_below (W := Y) (B := W2.heap.size) (g := bA) (by omega) (.slice ta.TA ta.Tn ta.Tc) (.slice ta.CA ta.Cn ta.Cc) (.slice ta.EA ta.En ta.Ec))
          rw [← hx6] at j0 j1 jk jb
          change K _ (set3 Y bA (.slice ta.TA ta.Tn ta.Tc) (.slice ta.CA ta.Cn ta.Cc) (.slice ta.EA ta.En ta.Ec))
          rw [← hx6]
          clear t0 t1 t2 zf0 zf1 zf2 hx6
          obtain ⟨⟨t0, t1, t2⟩, zf⟩ := blk_cells3 j1
          have zf0 := zf 0
          have zf1 := zf 1
          have zf2 := zf 2
          clear zf
          refine hK.out _ _ (HS.out _ jb) (fun hHeld => ?_)
          clear hK K
          try simp only [Act.put, List.getElem_toArray, List.getElem_cons_succ, List.getElem_cons_zero, List.setIfInBounds_toArray, List.set_cons_zero, List.set_cons_succ]
          refine wpAnyS_ready (rs := [7]) (by kernel_rfl) (by simp) (AllReadyS.cons true (by kernel_rfl) (o := _) rfl (fun K hK => ?_) AllReadyS.nil)
          go_simp
          obtain ⟨x7, hx7⟩ : ∃ x7, x7 = set3 x6 bB (.slice tb.TA tb.Tn tb.Tc) (.slice tb.CA tb.Cn tb.Cc) (.slice tb.EA tb.En tb.Ec) := ⟨_, rfl⟩
          have hres : OwnAB W2 (ownQ x.p) (ownQ y.p) (.pointer (some ⟨bA, 0, none⟩)) (.pointer (some ⟨bB, 0, none⟩)) x7 := by
            have ik := jk.trans (set3_keep j1 (.slice tb.TA tb.Tn tb.Tc) (.slice tb.CA tb.Cn tb.Cc) (.slice tb.EA tb.En tb.Ec))
            have ib := jb.trans (set3_below (W := x6) (B := W2.heap.size) (g := bB) (by omega) (.slice tb.TA tb.Tn tb.Tc) (.slice tb.CA tb.Cn tb.Cc) (.slice tb.EA tb.En tb.Ec))
            have i0 := set3_far (g := bB) j0 hne (.slice tb.TA tb.Tn tb.Tc) (.slice tb.CA tb.Cn tb.Cc) (.slice tb.EA tb.En tb.Ec)
            have i1 := set3_blk j1 (.slice tb.TA tb.Tn tb.Tc) (.slice tb.CA tb.Cn tb.Cc) (.slice tb.EA tb.En tb.Ec)
            rw [← hx7] at ik ib i0 i1
            exact ⟨bA, bB, ta, tb, rfl, rfl, hpa, hpb, i0, i1, hfa.keep ik, hfb.keep ik, ib⟩
          change K _ (set3 x6 bB (.slice tb.TA tb.Tn tb.Tc) (.slice tb.CA tb.Cn tb.Cc) (.slice tb.EA tb.En tb.Ec))
          rw [← hx7]
          have HRES := Lib.hid hres
          clear t0 t1 t2 zf0 zf1 zf2 hx7 hres
          refine hK.out _ _ trivial (fun hHeld => ?_)
          clear hK K
          try simp only [Act.put, List.getElem_toArray, List.getElem_cons_succ, List.getElem_cons_zero, List.setIfInBounds_toArray, List.set_cons_zero, List.set_cons_succ]
          refine wpAnyS_done (by kernel_rfl) ?_ _
          clear hHeld j0 j1 jk jb hfa hfb hkA hkB hpa hpb
          go_wp2_with fail
          go_meet
          case rel => exact HRES.out

      · skip
        go_simp
        obtain ⟨Y0pA, hnx⟩ : ∃ Y, Y = Y0p.alloc (.cells #[.slice none 0 0, .slice none 0 0, .slice none 0 0] 25) := ⟨_, rfl⟩
        have hst : Below Y0p.heap.size Y0p Y0pA := by rw [hnx]; exact (Below.refl _ _).alloc (Nat.le_refl _) _
        have hkA : Blk Y0pA Y0p.heap.size 25 #[.slice none 0 0, .slice none 0 0, .slice none 0 0] := by rw [hnx]; exact Blk.new Y0p _ _
        have hlA : W2.heap.size ≤ Y0p.heap.size := hb.size
        have hfa := hfa.below hst
        have hb := hb.trans (hst.mono hb.size)
        rw [← hnx]

        generalize Y0p.heap.size = bA at *
        refine hK.out _ _ (HS.out _ hb) (fun hHeld => ?_)
        clear hK K hst hnx
        try simp only [Act.put, List.getElem_toArray, List.getElem_cons_succ, List.getElem_cons_zero, List.setIfInBounds_toArray, List.set_cons_zero, List.set_cons_succ]

        refine wpAnyS_ready (rs := [3, 5]) (by kernel_rfl) (by simp) (AllReadyS.cons false (by kernel_rfl) (o := _) rfl (fun K hK => ?_) (AllReadyS.cons false (by kernel_rfl) (o := _) rfl (fun K hK => ?_) AllReadyS.nil))
        · skip
          go_simp
          with_reducible refine (cy _ hb).mono ?_
          rintro en Y0pAq ⟨tb, rfl, hpb, hfb, hst⟩
          (try unfold Tab.V)
          have hfb := hfb.base hb.size
          have hfa := hfa.below hst
          have hkA := blk_below hkA hst
          have hb := hb.trans (hst.mono hb.size)
          refine hK.out _ _ (HS.out _ hb) (fun hHeld => ?_)
          clear hK K hst
          try simp only [Act.put, List.getElem_toArray, List.getElem_cons_succ, List.getElem_cons_zero, List.setIfInBounds_toArray, List.set_cons_zero, List.set_cons_succ]

          refine wpAnyS_ready (rs := [5]) (by kernel_rfl) (by simp) (AllReadyS.cons false (by kernel_rfl) (o := _) rfl (fun K hK => ?_) AllReadyS.nil)
          go_simp
          obtain ⟨Y0pAqB, hnx⟩ : ∃ Y, Y = Y0pAq.alloc (.cells #[.slice none 0 0, .slice none 0 0, .slice none 0 0] 25) := ⟨_, rfl⟩
          have hst : Below Y0pAq.heap.size Y0pAq Y0pAqB := by rw [hnx]; exact (Below.refl _ _).alloc (Nat.le_refl _) _
          have hkB : Blk Y0pAqB Y0pAq.heap.size 25 #[.slice none 0 0, .slice none 0 0, .slice none 0 0] := by rw [hnx]; exact Blk.new Y0pAq _ _
          have hlB : W2.heap.size ≤ Y0pAq.heap.size := hb.size
          have hfa := hfa.below hst
          have hfb := hfb.below hst
          have hkA0 := hkA
          have hkA := blk_below hkA hst
          have hb := hb.trans (hst.mono hb.size)
          rw [← hnx]
          have hAB : bA < Y0pAq.heap.size := hkA0.lt
          generalize Y0pAq.heap.size = bB at *
          refine hK.out _ _ (HS.out _ hb) (fun hHeld => ?_)
          clear hK K hst hnx
          try simp only [Act.put, List.getElem_toArray, List.getElem_cons_succ, List.getElem_cons_zero, List.setIfInBounds_toArray, List.set_cons_zero, List.set_cons_succ]

          generalize Y0pAqB = Y at *
          have hne : bA ≠ bB := by omega
          obtain ⟨⟨t0, t1, t2⟩, zf⟩ := blk_cells3 hkA
          have zf0 := zf 0
          have zf1 := zf 1
          have zf2 := zf 2
          clear zf
          refine wpAnyS_ready (rs := [6]) (by kernel_rfl) (by simp) (AllReadyS.cons false (by kernel_rfl) (o := _) rfl (fun K hK => ?_) AllReadyS.nil)
          go_simp
          obtain ⟨x6, hx6⟩ : ∃ x6, x6 = set3 Y bA (.slice ta.TA ta.Tn ta.Tc) (.slice ta.CA ta.Cn ta.Cc) (.slice ta.EA ta.En ta.Ec) := ⟨_, rfl⟩
          have j0 := set3_blk hkA (.slice ta.TA ta.Tn ta.Tc) (.slice ta.CA ta.Cn ta.Cc) (.slice ta.EA ta.En ta.Ec)
          have j1 := set3_far (g := bA) hkB (fun e => hne e.symm) (.slice ta.TA ta.Tn ta.Tc) (.slice ta.CA ta.Cn ta.Cc) (.slice ta.EA ta.En ta.Ec)
          have jk := set3_keep hkA (.slice ta.TA ta.Tn ta.Tc) (.slice ta.CA ta.Cn ta.Cc) (.slice ta.EA ta.En ta.Ec)
          have jb := hb.trans (set3_below (W := Y) (B := W2.heap.size) (g := bA) (by omega) (.slice ta.TA ta.Tn ta.Tc) (.slice ta.CA ta.Cn ta.Cc) (.slice ta.EA ta.En ta.Ec))
          rw [← hx6] at j0 j1 jk jb
          change K _ (set3 Y bA (.slice ta.TA ta.Tn ta.Tc) (.slice ta.CA ta.Cn ta.Cc) (.slice ta.EA ta.En ta.Ec))
          rw [← hx6]
          clear t0 t1 t2 zf0 zf1 zf2 hx6
          obtain ⟨⟨t0, t1, t2⟩, zf⟩ := blk_cells3 j1
          have zf0 := zf 0
          have zf1 := zf 1
          have zf2 := zf 2
          clear zf
          refine hK.out _ _ (HS.out _ jb) (fun hHeld => ?_)
          clear hK K
          try simp only [Act.put, List.getElem_toArray, List.getElem_cons_succ, List.getElem_cons_zero, List.setIfInBounds_toArray, List.set_cons_zero, List.set_cons_succ]
          refine wpAnyS_ready (rs := [7]) (by kernel_rfl) (by simp) (AllReadyS.cons true (by kernel_rfl) (o := _) rfl (fun K hK => ?_) AllReadyS.nil)
          go_simp
          obtain ⟨x7, hx7⟩ : ∃ x7, x7 = set3 x6 bB (.slice tb.TA tb.Tn tb.Tc) (.slice tb.CA tb.Cn tb.Cc) (.slice tb.EA tb.En tb.Ec) := ⟨_, rfl⟩
          have hres : OwnAB W2 (ownQ x.p) (ownQ y.p) (.pointer (some ⟨bA, 0, none⟩)) (.pointer (some ⟨bB, 0, none⟩)) x7 := by
            have ik := jk.trans (set3_keep j1 (.slice tb.TA tb.Tn tb.Tc) (.slice tb.CA tb.Cn tb.Cc) (.slice tb.EA tb.En tb.Ec))
            have ib := jb.trans (set3_below (W := x6) (B := W2.heap.size) (g := bB) (by omega) (.slice tb.TA tb.Tn tb.Tc) (.slice tb.CA tb.Cn tb.Cc) (.slice tb.EA tb.En tb.Ec))
            have i0 := set3_far (g := bB) j0 hne (.slice tb.TA tb.Tn tb.Tc) (.slice tb.CA tb.Cn tb.Cc) (.slice tb.EA tb.En tb.Ec)
            have i1 := set3_blk j1 (.slice tb.TA tb.Tn tb.Tc) (.slice tb.CA tb.Cn tb.Cc) (.slice tb.EA tb.En tb.Ec)
            rw [← hx7] at ik ib i0 i1
            exact ⟨bA, bB, ta, tb, rfl, rfl, hpa, hpb, i0, i1, hfa.keep ik, hfb.keep ik, ib⟩
          change K _ (set3 x6 bB (.slice tb.TA tb.Tn tb.Tc) (.slice tb.CA tb.Cn tb.Cc) (.slice tb.EA tb.En tb.Ec))
          rw [← hx7]
          have HRES := Lib.hid hres
          clear t0 t1 t2 zf0 zf1 zf2 hx7 hres
          refine hK.out _ _ trivial (fun hHeld => ?_)
          clear hK K
          try simp only [Act.put, List.getElem_toArray, List.getElem_cons_succ, List.getElem_cons_zero, List.setIfInBounds_toArray, List.set_cons_zero, List.set_cons_succ]
          refine wpAnyS_done (by kernel_rfl) ?_ _
          clear hHeld j0 j1 jk jb hfa hfb hkA hkB hpa hpb
          go_wp2_with fail
          go_meet
          case rel => exact HRES.out

        · skip
          go_simp
          obtain ⟨Y0pAB, hnx⟩ : ∃ Y, Y = Y0pA.alloc (.cells #[.slice none 0 0, .slice none 0 0, .slice none 0 0] 25) := ⟨_, rfl⟩
          have hst : Below Y0pA.heap.size Y0pA Y0pAB := by rw [hnx]; exact (Below.refl _ _).alloc (Nat.le_refl _) _
          have hkB : Blk Y0pAB Y0pA.heap.size 25 #[.slice none 0 0, .slice none 0 0, .slice none 0 0] := by rw [hnx]; exact Blk.new Y0pA _ _
          have hlB : W2.heap.size ≤ Y0pA.heap.size := hb.size
          have hfa := hfa.below hst
          have hkA0 := hkA
          have hkA := blk_below hkA hst
          have hb := hb.trans (hst.mono hb.size)
          rw [← hnx]
          have hAB : bA < Y0pA.heap.size := hkA0.lt
          generalize Y0pA.heap.size = bB at *
          refine hK.out _ _ (HS.out _ hb) (fun hHeld => ?_)
          clear hK K hst hnx
          try simp only [Act.put, List.getElem_toArray, List.getElem_cons_succ, List.getElem_cons_zero, List.setIfInBounds_toArray, List.set_cons_zero, List.set_cons_succ]

          refine wpAnyS_ready (rs := [3]) (by kernel_rfl) (by simp) (AllReadyS.cons false (by kernel_rfl) (o := _) rfl (fun K hK => ?_) AllReadyS.nil)
          go_simp
          with_reducible refine (cy _ hb).mono ?_
          rintro en Y0pABq ⟨tb, rfl, hpb, hfb, hst⟩
          (try unfold Tab.V)
          have hfb := hfb.base hb.size
          have hfa := hfa.below hst
          have hkA := blk_below hkA hst
          have hkB := blk_below hkB hst
          have hb := hb.trans (hst.mono hb.size)
          refine hK.out _ _ (HS.out _ hb) (fun hHeld => ?_)
          clear hK K hst
          try simp only [Act.put, List.getElem_toArray, List.getElem_cons_succ, List.getElem_cons_zero, List.setIfInBounds_toArray, List.set_cons_zero, List.set_cons_succ]

          generalize Y0pABq = Y at *
          have hne : bA ≠ bB := by omega
          obtain ⟨⟨t0, t1, t2⟩, zf⟩ := blk_cells3 hkA
          have zf0 := zf 0
          have zf1 := zf 1
          have zf2 := zf 2
          clear zf
          refine wpAnyS_ready (rs := [6]) (by kernel_rfl) (by simp) (AllReadyS.cons false (by kernel_rfl) (o := _) rfl (fun K hK => ?_) AllReadyS.nil)
          go_simp
          obtain ⟨x6, hx6⟩ : ∃ x6, x6 = set3 Y bA (.slice ta.TA ta.Tn ta.Tc) (.slice ta.CA ta.Cn ta.Cc) (.slice ta.EA ta.En ta.Ec) := ⟨_, rfl⟩
          have j0 := set3_blk hkA (.slice ta.TA ta.Tn ta.Tc) (.slice ta.CA ta.Cn ta.Cc) (.slice ta.EA ta.En ta.Ec)
          have j1 := set3_far (g := bA) hkB (fun e => hne e.symm) (.slice ta.TA ta.Tn ta.Tc) (.slice ta.CA ta.Cn ta.Cc) (.slice ta.EA ta.En ta.Ec)
          have jk := set3_keep hkA (.slice ta.TA ta.Tn ta.Tc) (.slice ta.CA ta.Cn ta.Cc) (.slice ta.EA ta.En ta.Ec)
          have jb := hb.trans (set3_below (W := Y) (B := W2.heap.size) (g := bA) (by omega) (.slice ta.TA ta.Tn ta.Tc) (.slice ta.CA ta.Cn ta.Cc) (.slice ta.EA ta.En ta.Ec))
          rw [← hx6] at j0 j1 jk jb
          change K _ (set3 Y bA (.slice ta.TA ta.Tn ta.Tc) (.slice ta.CA ta.Cn ta.Cc) (.slice ta.EA ta.En ta.Ec))
          rw [← hx6]
          clear t0 t1 t2 zf0 zf1 zf2 hx6
          obtain ⟨⟨t0, t1, t2⟩, zf⟩ := blk_cells3 j1
          have zf0 := zf 0
          have zf1 := zf 1
          have zf2 := zf 2
          clear zf
          refine hK.out _ _ (HS.out _ jb) (fun hHeld => ?_)
          clear hK K
          try simp only [Act.put, List.getElem_toArray, List.getElem_cons_succ, List.getElem_cons_zero, List.setIfInBounds_toArray, List.set_cons_zero, List.set_cons_succ]
          refine wpAnyS_ready (rs := [7]) (by kernel_rfl) (by simp) (AllReadyS.cons true (by kernel_rfl) (o := _) rfl (fun K hK => ?_) AllReadyS.nil)
          go_simp
          obtain ⟨x7, hx7⟩ : ∃ x7, x7 = set3 x6 bB (.slice tb.TA tb.Tn tb.Tc) (.slice tb.CA tb.Cn tb.Cc) (.slice tb.EA tb.En tb.Ec) := ⟨_, rfl⟩
          have hres : OwnAB W2 (ownQ x.p) (ownQ y.p) (.pointer (some ⟨bA, 0, none⟩)) (.pointer (some ⟨bB, 0, none⟩)) x7 := by
            have ik := jk.trans (set3_keep j1 (.slice tb.TA tb.Tn tb.Tc) (.slice tb.CA tb.Cn tb.Cc) (.slice tb.EA tb.En tb.Ec))
            have ib := jb.trans (set3_below (W := x6) (B := W2.heap.size) (g := bB) (by omega) (.slice tb.TA tb.Tn tb.Tc) (.slice tb.CA tb.Cn tb.Cc) (.slice tb.EA tb.En tb.Ec))
            have i0 := set3_far (g := bB) j0 hne (.slice tb.TA tb.Tn tb.Tc) (.slice tb.CA tb.Cn tb.Cc) (.slice tb.EA tb.En tb.Ec)
            have i1 := set3_blk j1 (.slice tb.TA tb.Tn tb.Tc) (.slice tb.CA tb.Cn tb.Cc) (.slice tb.EA tb.En tb.Ec)
            rw [← hx7] at ik ib i0 i1
            exact ⟨bA, bB, ta, tb, rfl, rfl, hpa, hpb, i0, i1, hfa.keep ik, hfb.keep ik, ib⟩
          change K _ (set3 x6 bB (.slice tb.TA tb.Tn tb.Tc) (.slice tb.CA tb.Cn tb.Cc) (.slice tb.EA tb.En tb.Ec))
          rw [← hx7]
          have HRES := Lib.hid hres
          clear t0 t1 t2 zf0 zf1 zf2 hx7 hres
          refine hK.out _ _ trivial (fun hHeld => ?_)
          clear hK K
          try simp only [Act.put, List.getElem_toArray, List.getElem_cons_succ, List.getElem_cons_zero, List.setIfInBounds_toArray, List.set_cons_zero, List.set_cons_succ]
          refine wpAnyS_done (by kernel_rfl) ?_ _
          clear hHeld j0 j1 jk jb hfa hfb hkA hkB hpa hpb
          go_wp2_with fail
          go_meet
          case rel => exact HRES.out

      · skip
        go_simp
        obtain ⟨Y0pB, hnx⟩ : ∃ Y, Y = Y0p.alloc (.cells #[.slice none 0 0, .slice none 0 0, .slice none 0 0] 25) := ⟨_, rfl⟩
        have hst : Below Y0p.heap.size Y0p Y0pB := by rw [hnx]; exact (Below.refl _ _).alloc (Nat.le_refl _) _
        have hkB : Blk Y0pB Y0p.heap.size 25 #[.slice none 0 0, .slice none 0 0, .slice none 0 0] := by rw [hnx]; exact Blk.new Y0p _ _
        have hlB : W2.heap.size ≤ Y0p.heap.size := hb.size
        have hfa := hfa.below hst
        have hb := hb.trans (hst.mono hb.size)
        rw [← hnx]

        generalize Y0p.heap.size = bB at *
        refine hK.out _ _ (HS.out _ hb) (fun hHeld => ?_)
        clear hK K hst hnx
        try simp only [Act.put, List.getElem_toArray, List.getElem_cons_succ, List.getElem_cons_zero, List.setIfInBounds_toArray, List.set_cons_zero, List.set_cons_succ]

        refine wpAnyS_ready (rs := [3, 4]) (by kernel_rfl) (by simp) (AllReadyS.cons false (by kernel_rfl) (o := _) rfl (fun K hK => ?_) (AllReadyS.cons false (by kernel_rfl) (o := _) rfl (fun K hK => ?_) AllReadyS.nil))
        · skip
          go_simp
          with_reducible refine (cy _ hb).mono ?_
          rintro en Y0pBq ⟨tb, rfl, hpb, hfb, hst⟩
          (try unfold Tab.V)
          have hfb := hfb.base hb.size
          have hfa := hfa.below hst
          have hkB := blk_below hkB hst
          have hb := hb.trans (hst.mono hb.size)
          refine hK.out _ _ (HS.out _ hb) (fun hHeld => ?_)
          clear hK K hst
          try simp only [Act.put, List.getElem_toArray, List.getElem_cons_succ, List.getElem_cons_zero, List.setIfInBounds_toArray, List.set_cons_zero, List.set_cons_succ]

          refine wpAnyS_ready (rs := [4]) (by kernel_rfl) (by simp) (AllReadyS.cons false (by kernel_rfl) (o := _) rfl (fun K hK => ?_) AllReadyS.nil)
          go_simp
          obtain ⟨Y0pBqA, hnx⟩ : ∃ Y, Y = Y0pBq.alloc (.cells #[.slice none 0 0, .slice none 0 0, .slice none 0 0] 25) := ⟨_, rfl⟩
          have hst : Below Y0pBq.heap.size Y0pBq Y0pBqA := by rw [hnx]; exact (Below.refl _ _).alloc (Nat.le_refl _) _
          have hkA : Blk Y0pBqA Y0pBq.heap.size 25 #[.slice none 0 0, .slice none 0 0, .slice none 0 0] := by rw [hnx]; exact Blk.new Y0pBq _ _
          have hlA : W2.heap.size ≤ Y0pBq.heap.size := hb.size
          have hfa := hfa.below hst
          have hfb := hfb.below hst
          have hkB0 := hkB
          have hkB := blk_below hkB hst
          have hb := hb.trans (hst.mono hb.size)
          rw [← hnx]
          have hAB : bB < Y0pBq.heap.size := hkB0.lt
          generalize Y0pBq.heap.size = bA at *
          refine hK.out _ _ (HS.out _ hb) (fun hHeld => ?_)
          clear hK K hst hnx
          try simp only [Act.put, List.getElem_toArray, List.getElem_cons_succ, List.getElem_cons_zero, List.setIfInBounds_toArray, List.set_cons_zero, List.set_cons_succ]

          generalize Y0pBqA = Y at *
          have hne : bA ≠ bB := by omega
          obtain ⟨⟨t0, t1, t2⟩, zf⟩ := blk_cells3 hkA
          have zf0 := zf 0
          have zf1 := zf 1
          have zf2 := zf 2
          clear zf
          refine wpAnyS_ready (rs := [6]) (by kernel_rfl) (by simp) (AllReadyS.cons false (by kernel_rfl) (o := _) rfl (fun K hK => ?_) AllReadyS.nil)
          go_simp
          obtain ⟨x6, hx6⟩ : ∃ x6, x6 = set3 Y bA (.slice ta.TA ta.Tn ta.Tc) (.slice ta.CA ta.Cn ta.Cc) (.slice ta.EA ta.En ta.Ec) := ⟨_, rfl⟩
          have j0 := set3_blk hkA (.slice ta.TA ta.Tn ta.Tc) (.slice ta.CA ta.Cn ta.Cc) (.slice ta.EA ta.En ta.Ec)
          have j1 := set3_far (g := bA) hkB (fun e => hne e.symm) (.slice ta.TA ta.Tn ta.Tc) (.slice ta.CA ta.Cn ta.Cc) (.slice ta.EA ta.En ta.Ec)
          have jk := set3_keep hkA (.slice ta.TA ta.Tn ta.Tc) (.slice ta.CA ta.Cn ta.Cc) (.slice ta.EA ta.En ta.Ec)
          have jb := hb.trans (set3_below (W := Y) (B := W2.heap.size) (g := bA) (by omega) (.slice ta.TA ta.Tn ta.Tc) (.slice ta.CA ta.Cn ta.Cc) (.slice ta.EA ta.En ta.Ec))
          rw [← hx6] at j0 j1 jk jb
          change K _ (set3 Y bA (.slice ta.TA ta.Tn ta.Tc) (.slice ta.CA ta.Cn ta.Cc) (.slice ta.EA ta.En ta.Ec))
          rw [← hx6]
          clear t0 t1 t2 zf0 zf1 zf2 hx6
          obtain ⟨⟨t0, t1, t2⟩, zf⟩ := blk_cells3 j1
          have zf0 := zf 0
          have zf1 := zf 1
          have zf2 := zf 2
          clear zf
          refine hK.out _ _ (HS.out _ jb) (fun hHeld => ?_)
          clear hK K
          try simp only [Act.put, List.getElem_toArray, List.getElem_cons_succ, List.getElem_cons_zero, List.setIfInBounds_toArray, List.set_cons_zero, List.set_cons_succ]
          refine wpAnyS_ready (rs := [7]) (by kernel_rfl) (by simp) (AllReadyS.cons true (by kernel_rfl) (o := _) rfl (fun K hK => ?_) AllReadyS.nil)
          go_simp
          obtain ⟨x7, hx7⟩ : ∃ x7, x7 = set3 x6 bB (.slice tb.TA tb.Tn tb.Tc) (.slice tb.CA tb.Cn tb.Cc) (.slice tb.EA tb.En tb.Ec) := ⟨_, rfl⟩
          have hres : OwnAB W2 (ownQ x.p) (ownQ y.p) (.pointer (some ⟨bA, 0, none⟩)) (.pointer (some ⟨bB, 0, none⟩)) x7 := by
            have ik := jk.trans (set3_keep j1 (.slice tb.TA tb.Tn tb.Tc) (.slice tb.CA tb.Cn tb.Cc) (.slice tb.EA tb.En tb.Ec))
            have ib := jb.trans (set3_below (W := x6) (B := W2.heap.size) (g := bB) (by omega) (.slice tb.TA tb.Tn tb.Tc) (.slice tb.CA tb.Cn tb.Cc) (.slice tb.EA tb.En tb.Ec))
            have i0 := set3_far (g := bB) j0 hne (.slice tb.TA tb.Tn tb.Tc) (.slice tb.CA tb.Cn tb.Cc) (.slice tb.EA tb.En tb.Ec)
            have i1 := set3_blk j1 (.slice tb.TA tb.Tn tb.Tc) (.slice tb.CA tb.Cn tb.Cc) (.slice tb.EA tb.En tb.Ec)
            rw [← hx7] at ik ib i0 i1
            exact ⟨bA, bB, ta, tb, rfl, rfl, hpa, hpb, i0, i1, hfa.keep ik, hfb.keep ik, ib⟩
          change K _ (set3 x6 bB (.slice tb.TA tb.Tn tb.Tc) (.slice tb.CA tb.Cn tb.Cc) (.slice tb.EA tb.En tb.Ec))
          rw [← hx7]
          have HRES := Lib.hid hres
          clear t0 t1 t2 zf0 zf1 zf2 hx7 hres
          refine hK.out _ _ trivial (fun hHeld => ?_)
          clear hK K
          try simp only [Act.put, List.getElem_toArray, List.getElem_cons_succ, List.getElem_cons_zero, List.setIfInBounds_toArray, List.set_cons_zero, List.set_cons_succ]
          refine wpAnyS_done (by kernel_rfl) ?_ _
          clear hHeld j0 j1 jk jb hfa hfb hkA hkB hpa hpb
          go_wp2_with fail
          go_meet
          case rel => exact HRES.out

        · skip
          go_simp
          obtain ⟨Y0pBA, hnx⟩ : ∃ Y, Y = Y0pB.alloc (.cells #[.slice none 0 0, .slice none 0 0, .slice none 0 0] 25) := ⟨_, rfl⟩
          have hst : Below Y0pB.heap.size Y0pB Y0pBA := by rw [hnx]; exact (Below.refl _ _).alloc (Nat.le_refl _) _
          have hkA : Blk Y0pBA Y0pB.heap.size 25 #[.slice none 0 0, .slice none 0 0, .slice none 0 0] := by rw [hnx]; exact Blk.new Y0pB _ _
          have hlA : W2.heap.size ≤ Y0pB.heap.size := hb.size
          have hfa := hfa.below hst
          have hkB0 := hkB
          have hkB := blk_below hkB hst
          have hb := hb.trans (hst.mono hb.size)
          rw [← hnx]
          have hAB : bB < Y0pB.heap.size := hkB0.lt
          generalize Y0pB.heap.size = bA at *
          refine hK.out _ _ (HS.out _ hb) (fun hHeld => ?_)
          clear hK K hst hnx
          try simp only [Act.put, List.getElem_toArray, List.getElem_cons_succ, List.getElem_cons_zero, List.setIfInBounds_toArray, List.set_cons_zero, List.set_cons_succ]

          refine wpAnyS_ready (rs := [3]) (by kernel_rfl) (by simp) (AllReadyS.cons false (by kernel_rfl) (o := _) rfl (fun K hK => ?_) AllReadyS.nil)
          go_simp
          with_reducible refine (cy _ hb).mono ?_
          rintro en Y0pBAq ⟨tb, rfl, hpb, hfb, hst⟩
          (try unfold Tab.V)
          have hfb := hfb.base hb.size
          have hfa := hfa.below hst
          have hkA := blk_below hkA hst
          have hkB := blk_below hkB hst
          have hb := hb.trans (hst.mono hb.size)
          refine hK.out _ _ (HS.out _ hb) (fun hHeld => ?_)
          clear hK K hst
          try simp only [Act.put, List.getElem_toArray, List.getElem_cons_succ, List.getElem_cons_zero, List.setIfInBounds_toArray, List.set_cons_zero, List.set_cons_succ]

          generalize Y0pBAq = Y at *
          have hne : bA ≠ bB := by omega
          obtain ⟨⟨t0, t1, t2⟩, zf⟩ := blk_cells3 hkA
          have zf0 := zf 0
          have zf1 := zf 1
          have zf2 := zf 2
          clear zf
          refine wpAnyS_ready (rs := [6]) (by kernel_rfl) (by simp) (AllReadyS.cons false (by kernel_rfl) (o := _) rfl (fun K hK => ?_) AllReadyS.nil)
          go_simp
          obtain ⟨x6, hx6⟩ : ∃ x6, x6 = set3 Y bA (.slice ta.TA ta.Tn ta.Tc) (.slice ta.CA ta.Cn ta.Cc) (.slice ta.EA ta.En ta.Ec) := ⟨_, rfl⟩
          have j0 := set3_blk hkA (.slice ta.TA ta.Tn ta.Tc) (.slice ta.CA ta.Cn ta.Cc) (.slice ta.EA ta.En ta.Ec)
          have j1 := set3_far (g := bA) hkB (fun e => hne e.symm) (.slice ta.TA ta.Tn ta.Tc) (.slice ta.CA ta.Cn ta.Cc) (.slice ta.EA ta.En ta.Ec)
          have jk := set3_keep hkA (.slice ta.TA ta.Tn ta.Tc) (.slice ta.CA ta.Cn ta.Cc) (.slice ta.EA ta.En ta.Ec)
          have jb := hb.trans (set3_below (W := Y) (B := W2.heap.size) (g := bA) (by omega) (.slice ta.TA ta.Tn ta.Tc) (.slice ta.CA ta.Cn ta.Cc) (.slice ta.EA ta.En ta.Ec))
          rw [← hx6] at j0 j1 jk jb
          change K _ (set3 Y bA (.slice ta.TA ta.Tn ta.Tc) (.slice ta.CA ta.Cn ta.Cc) (.slice ta.EA ta.En ta.Ec))
          rw [← hx6]
          clear t0 t1 t2 zf0 zf1 zf2 hx6
          obtain ⟨⟨t0, t1, t2⟩, zf⟩ := blk_cells3 j1
          have zf0 := zf 0
          have zf1 := zf 1
          have zf2 := zf 2
          clear zf
          refine hK.out _ _ (HS.out _ jb) (fun hHeld => ?_)
          clear hK K
          try simp only [Act.put, List.getElem_toArray, List.getElem_cons_succ, List.getElem_cons_zero, List.setIfInBounds_toArray, List.set_cons_zero, List.set_cons_succ]
          refine wpAnyS_ready (rs := [7]) (by kernel_rfl) (by simp) (AllReadyS.cons true (by kernel_rfl) (o := _) rfl (fun K hK => ?_) AllReadyS.nil)
          go_simp
          obtain ⟨x7, hx7⟩ : ∃ x7, x7 = set3 x6 bB (.slice tb.TA tb.Tn tb.Tc) (.slice tb.CA tb.Cn tb.Cc) (.slice tb.EA tb.En tb.Ec) := ⟨_, rfl⟩
          have hres : OwnAB W2 (ownQ x.p) (ownQ y.p) (.pointer (some ⟨bA, 0, none⟩)) (.pointer (some ⟨bB, 0, none⟩)) x7 := by
            have ik := jk.trans (set3_keep j1 (.slice tb.TA tb.Tn tb.Tc) (.slice tb.CA tb.Cn tb.Cc) (.slice tb.EA tb.En tb.Ec))
            have ib := jb.trans (set3_below (W := x6) (B := W2.heap.size) (g := bB) (by omega) (.slice tb.TA tb.Tn tb.Tc) (.slice tb.CA tb.Cn tb.Cc) (.slice tb.EA tb.En tb.Ec))
            have i0 := set3_far (g := bB) j0 hne (.slice tb.TA tb.Tn tb.Tc) (.slice tb.CA tb.Cn tb.Cc) (.slice tb.EA tb.En tb.Ec)
            have i1 := set3_blk j1 (.slice tb.TA tb.Tn tb.Tc) (.slice tb.CA tb.Cn tb.Cc) (.slice tb.EA tb.En tb.Ec)
            rw [← hx7] at ik ib i0 i1
            exact ⟨bA, bB, ta, tb, rfl, rfl, hpa, hpb, i0, i1, hfa.keep ik, hfb.keep ik, ib⟩
          change K _ (set3 x6 bB (.slice tb.TA tb.Tn tb.Tc) (.slice tb.CA tb.Cn tb.Cc) (.slice tb.EA tb.En tb.Ec))
          rw [← hx7]
          have HRES := Lib.hid hres
          clear t0 t1 t2 zf0 zf1 zf2 hx7 hres
          refine hK.out _ _ trivial (fun hHeld => ?_)
          clear hK K
          try simp only [Act.put, List.getElem_toArray, List.getElem_cons_succ, List.getElem_cons_zero, List.setIfInBounds_toArray, List.set_cons_zero, List.set_cons_succ]
          refine wpAnyS_done (by kernel_rfl) ?_ _
          clear hHeld j0 j1 jk jb hfa hfb hkA hkB hpa hpb
          go_wp2_with fail
          go_meet
          case rel => exact HRES.out

    · skip
      go_simp
      obtain ⟨Y0A, hnx⟩ : ∃ Y, Y = Y0.alloc (.cells #[.slice none 0 0, .slice none 0 0, .slice none 0 0] 25) := ⟨_, rfl⟩
      have hst : Below Y0.heap.size Y0 Y0A := by rw [hnx]; exact (Below.refl _ _).alloc (Nat.le_refl _) _
      have hkA : Blk Y0A Y0.heap.size 25 #[.slice none 0 0, .slice none 0 0, .slice none 0 0] := by rw [hnx]; exact Blk.new Y0 _ _
      have hlA : W2.heap.size ≤ Y0.heap.size := hb.size
      have hb := hb.trans (hst.mono hb.size)
      rw [← hnx]

      generalize Y0.heap.size = bA at *
      refine hK.out _ _ (HS.out _ hb) (fun hHeld => ?_)
      clear hK K hst hnx
      try simp only [Act.put, List.getElem_toArray, List.getElem_cons_succ, List.getElem_cons_zero, List.setIfInBounds_toArray, List.set_cons_zero, List.set_cons_succ]

      refine wpAnyS_ready (rs := [1, 5]) (by kernel_rfl) (by simp) (AllReadyS.cons false (by kernel_rfl) (o := _) rfl (fun K hK => ?_) (AllReadyS.cons false (by kernel_rfl) (o := _) rfl (fun K hK => ?_) AllReadyS.nil))
      · skip
        go_simp
        with_reducible refine (cx _ hb).mono ?_
        rintro en Y0Ap ⟨ta, rfl, hpa, hfa, hst⟩
        (try unfold Tab.V)
        have hfa := hfa.base hb.size
        have hkA := blk_below hkA hst
        have hb := hb.trans (hst.mono hb.size)
        refine hK.out _ _ (HS.out _ hb) (fun hHeld => ?_)
        clear hK K hst
        try simp only [Act.put, List.getElem_toArray, List.getElem_cons_succ, List.getElem_cons_zero, List.setIfInBounds_toArray, List.set_cons_zero, List.set_cons_succ]

        refine wpAnyS_ready (rs := [3, 5]) (by kernel_rfl) (by simp) (AllReadyS.cons false (by kernel_rfl) (o := _) rfl (fun K hK => ?_) (AllReadyS.cons false (by kernel_rfl) (o := _) rfl (fun K hK => ?_) AllReadyS.nil))
        · skip
          go_simp
          with_reducible refine (cy _ hb).mono ?_
          rintro en Y0Apq ⟨tb, rfl, hpb, hfb, hst⟩
          (try unfold Tab.V)
          have hfb := hfb.base hb.size
          have hfa := hfa.below hst
          have hkA := blk_below hkA hst
          have hb := hb.trans (hst.mono hb.size)
          refine hK.out _ _ (HS.out _ hb) (fun hHeld => ?_)
          clear hK K hst
          try simp only [Act.put, List.getElem_toArray, List.getElem_cons_succ, List.getElem_cons_zero, List.setIfInBounds_toArray, List.set_cons_zero, List.set_cons_succ]

          refine wpAnyS_ready (rs := [5]) (by kernel_rfl) (by simp) (AllReadyS.cons false (by kernel_rfl) (o := _) rfl (fun K hK => ?_) AllReadyS.nil)
          go_simp
          obtain ⟨Y0ApqB, hnx⟩ : ∃ Y, Y = Y0Apq.alloc (.cells #[.slice none 0 0, .slice none 0 0, .slice none 0 0] 25) := ⟨_, rfl⟩
          have hst : Below Y0Apq.heap.size Y0Apq Y0ApqB := by rw [hnx]; exact (Below.refl _ _).alloc (Nat.le_refl _) _
          have hkB : Blk Y0ApqB Y0Apq.heap.size 25 #[.slice none 0 0, .slice none 0 0, .slice none 0 0] := by rw [hnx]; exact Blk.new Y0Apq _ _
          have hlB : W2.heap.size ≤ Y0Apq.heap.size := hb.size
          have hfa := hfa.below hst
          have hfb := hfb.below hst
          have hkA0 := hkA
          have hkA := blk_below hkA hst
          have hb := hb.trans (hst.mono hb.size)
          rw [← hnx]
          have hAB : bA < Y0Apq.heap.size := hkA0.lt
          generalize Y0Apq.heap.size = bB at *
          refine hK.out _ _ (HS.out _ hb) (fun hHeld => ?_)
          clear hK K hst hnx
          try simp only [Act.put, List.getElem_toArray, List.getElem_cons_succ, List.getElem_cons_zero, List.setIfInBounds_toArray, List.set_cons_zero, List.set_cons_succ]

          generalize Y0ApqB = Y at *
          have hne : bA ≠ bB := by omega
          obtain ⟨⟨t0, t1, t2⟩, zf⟩ := blk_cells3 hkA
          have zf0 := zf 0
          have zf1 := zf 1
          have zf2 := zf 2
          clear zf
          refine wpAnyS_ready (rs := [6]) (by kernel_rfl) (by simp) (AllReadyS.cons false (by kernel_rfl) (o := _) rfl (fun K hK => ?_) AllReadyS.nil)
          go_simp
          obtain ⟨x6, hx6⟩ : ∃ x6, x6 = set3 Y bA (.slice ta.TA ta.Tn ta.Tc) (.slice ta.CA ta.Cn ta.Cc) (.slice ta.EA ta.En ta.Ec) := ⟨_, rfl⟩
          have j0 := set3_blk hkA (.slice ta.TA ta.Tn ta.Tc) (.slice ta.CA ta.Cn ta.Cc) (.slice ta.EA ta.En ta.Ec)
          have j1 := set3_far (g := bA) hkB (fun e => hne e.symm) (.slice ta.TA ta.Tn ta.Tc) (.slice ta.CA ta.Cn ta.Cc) (.slice ta.EA ta.En ta.Ec)
          have jk := set3_keep hkA (.slice ta.TA ta.Tn ta.Tc) (.slice ta.CA ta.Cn ta.Cc) (.slice ta.EA ta.En ta.Ec)
          have jb := hb.trans (set3_below (W := Y) (B := W2.heap.size) (g := bA) (by omega) (.slice ta.TA ta.Tn ta.Tc) (.slice ta.CA ta.Cn ta.Cc) (.slice ta.EA ta.En ta.Ec))
          rw [← hx6] at j0 j1 jk jb
          change K _ (set3 Y bA (.slice ta.TA ta.Tn ta.Tc) (.slice ta.CA ta.Cn ta.Cc) (.slice ta.EA ta.En ta.Ec))
          rw [← hx6]
          clear t0 t1 t2 zf0 zf1 zf2 hx6
          obtain ⟨⟨t0, t1, t2⟩, zf⟩ := blk_cells3 j1
          have zf0 := zf 0
          have zf1 := zf 1
          have zf2 := zf 2
          clear zf
          refine hK.out _ _ (HS.out _ jb) (fun hHeld => ?_)
          clear hK K
          try simp only [Act.put, List.getElem_toArray, List.getElem_cons_succ, List.getElem_cons_zero, List.setIfInBounds_toArray, List.set_cons_zero, List.set_cons_succ]
          refine wpAnyS_ready (rs := [7]) (by kernel_rfl) (by simp) (AllReadyS.cons true (by kernel_rfl) (o := _) rfl (fun K hK => ?_) AllReadyS.nil)
          go_simp
          obtain ⟨x7, hx7⟩ : ∃ x7, x7 = set3 x6 bB (.slice tb.TA tb.Tn tb.Tc) (.slice tb.CA tb.Cn tb.Cc) (.slice tb.EA tb.En tb.Ec) := ⟨_, rfl⟩
          have hres : OwnAB W2 (ownQ x.p) (ownQ y.p) (.pointer (some ⟨bA, 0, none⟩)) (.pointer (some ⟨bB, 0, none⟩)) x7 := by
            have ik := jk.trans (set3_keep j1 (.slice tb.TA tb.Tn tb.Tc) (.slice tb.CA tb.Cn tb.Cc) (.slice tb.EA tb.En tb.Ec))
            have ib := jb.trans (set3_below (W := x6) (B := W2.heap.size) (g := bB) (by omega) (.slice tb.TA tb.Tn tb.Tc) (.slice tb.CA tb.Cn tb.Cc) (.slice tb.EA tb.En tb.Ec))
            have i0 := set3_far (g := bB) j0 hne (.slice tb.TA tb.Tn tb.Tc) (.slice tb.CA tb.Cn tb.Cc) (.slice tb.EA tb.En tb.Ec)
            have i1 := set3_blk j1 (.slice tb.TA tb.Tn tb.Tc) (.slice tb.CA tb.Cn tb.Cc) (.slice tb.EA tb.En tb.Ec)
            rw [← hx7] at ik ib i0 i1
            exact ⟨bA, bB, ta, tb, rfl, rfl, hpa, hpb, i0, i1, hfa.keep ik, hfb.keep ik, ib⟩
          change K _ (set3 x6 bB (.slice tb.TA tb.Tn tb.Tc) (.slice tb.CA tb.Cn tb.Cc) (.slice tb.EA tb.En tb.Ec))
          rw [← hx7]
          have HRES := Lib.hid hres
          clear t0 t1 t2 zf0 zf1 zf2 hx7 hres
          refine hK.out _ _ trivial (fun hHeld => ?_)
          clear hK K
          try simp only [Act.put, List.getElem_toArray, List.getElem_cons_succ, List.getElem_cons_zero, List.setIfInBounds_toArray, List.set_cons_zero, List.set_cons_succ]
          refine wpAnyS_done (by kernel_rfl) ?_ _
          clear hHeld j0 j1 jk jb hfa hfb hkA hkB hpa hpb
          go_wp2_with fail
          go_meet
          case rel => exact HRES.out

        · skip
          go_simp
          obtain ⟨Y0ApB, hnx⟩ : ∃ Y, Y = Y0Ap.alloc (.cells #[.slice none 0 0, .slice none 0 0, .slice none 0 0] 25) := ⟨_, rfl⟩
          have hst : Below Y0Ap.heap.size Y0Ap Y0ApB := by rw [hnx]; exact (Below.refl _ _).alloc (Nat.le_refl _) _
          have hkB : Blk Y0ApB Y0Ap.heap.size 25 #[.slice none 0 0, .slice none 0 0, .slice none 0 0] := by rw [hnx]; exact Blk.new Y0Ap _ _
          have hlB : W2.heap.size ≤ Y0Ap.heap.size := hb.size
          have hfa := hfa.below hst
          have hkA0 := hkA
          have hkA := blk_below hkA hst
          have hb := hb.trans (hst.mono hb.size)
          rw [← hnx]
          have hAB : bA < Y0Ap.heap.size := hkA0.lt
          generalize Y0Ap.heap.size = bB at *
          refine hK.out _ _ (HS.out _ hb) (fun hHeld => ?_)
          clear hK K hst hnx
          try simp only [Act.put, List.getElem_toArray, List.getElem_cons_succ, List.getElem_cons_zero, List.setIfInBounds_toArray, List.set_cons_zero, List.set_cons_succ]

          refine wpAnyS_ready (rs := [3]) (by kernel_rfl) (by simp) (AllReadyS.cons false (by kernel_rfl) (o := _) rfl (fun K hK => ?_) AllReadyS.nil)
          go_simp
          with_reducible refine (cy _ hb).mono ?_
          rintro en Y0ApBq ⟨tb, rfl, hpb, hfb, hst⟩
          (try unfold Tab.V)
          have hfb := hfb.base hb.size
          have hfa := hfa.below hst
          have hkA := blk_below hkA hst
          have hkB := blk_below hkB hst
          have hb := hb.trans (hst.mono hb.size)
          refine hK.out _ _ (HS.out _ hb) (fun hHeld => ?_)
          clear hK K hst
          try simp only [Act.put, List.getElem_toArray, List.getElem_cons_succ, List.getElem_cons_zero, List.setIfInBounds_toArray, List.set_cons_zero, List.set_cons_succ]

          generalize Y0ApBq = Y at *
          have hne : bA ≠ bB := by omega
          obtain ⟨⟨t0, t1, t2⟩, zf⟩ := blk_cells3 hkA
          have zf0 := zf 0
          have zf1 := zf 1
          have zf2 := zf 2
          clear zf
          refine wpAnyS_ready (rs := [6]) (by kernel_rfl) (by simp) (AllReadyS.cons false (by kernel_rfl) (o := _) rfl (fun K hK => ?_) AllReadyS.nil)
          go_simp
          obtain ⟨x6, hx6⟩ : ∃ x6, x6 = set3 Y bA (.slice ta.TA ta.Tn ta.Tc) (.slice ta.CA ta.Cn ta.Cc) (.slice ta.EA ta.En ta.Ec) := ⟨_, rfl⟩
          have j0 := set3_blk hkA (.slice ta.TA ta.Tn ta.Tc) (.slice ta.CA ta.Cn ta.Cc) (.slice ta.EA ta.En ta.Ec)
          have j1 := set3_far (g := bA) hkB (fun e => hne e.symm) (.slice ta.TA ta.Tn ta.Tc) (.slice ta.CA ta.Cn ta.Cc) (.slice ta.EA ta.En ta.Ec)
          have jk := set3_keep hkA (.slice ta.TA ta.Tn ta.Tc) (.slice ta.CA ta.Cn ta.Cc) (.slice ta.EA ta.En ta.Ec)
          have jb := hb.trans (set3_below (W := Y) (B := W2.heap.size) (g := bA) (by omega) (.slice ta.TA ta.Tn ta.Tc) (.slice ta.CA ta.Cn ta.Cc) (.slice ta.EA ta.En ta.Ec))
          rw [← hx6] at j0 j1 jk jb
          change K _ (set3 Y bA (.slice ta.TA ta.Tn ta.Tc) (.slice ta.CA ta.Cn ta.Cc) (.slice ta.EA ta.En ta.Ec))
          rw [← hx6]
          clear t0 t1 t2 zf0 zf1 zf2 hx6
          obtain ⟨⟨t0, t1, t2⟩, zf⟩ := blk_cells3 j1
          have zf0 := zf 0
          have zf1 := zf 1
          have zf2 := zf 2
          clear zf
          refine hK.out _ _ (HS.out _ jb) (fun hHeld => ?_)
          clear hK K
          try simp only [Act.put, List.getElem_toArray, List.getElem_cons_succ, List.getElem_cons_zero, List.setIfInBounds_toArray, List.set_cons_zero, List.set_cons_succ]
          refine wpAnyS_ready (rs := [7]) (by kernel_rfl) (by simp) (AllReadyS.cons true (by kernel_rfl) (o := _) rfl (fun K hK => ?_) AllReadyS.nil)
          go_simp
          obtain ⟨x7, hx7⟩ : ∃ x7, x7 = set3 x6 bB (.slice tb.TA tb.Tn tb.Tc) (.slice tb.CA tb.Cn tb.Cc) (.slice tb.EA tb.En tb.Ec) := ⟨_, rfl⟩
          have hres : OwnAB W2 (ownQ x.p) (ownQ y.p) (.pointer (some ⟨bA, 0, none⟩)) (.pointer (some ⟨bB, 0, none⟩)) x7 := by
            have ik := jk.trans (set3_keep j1 (.slice tb.TA tb.Tn tb.Tc) (.slice tb.CA tb.Cn tb.Cc) (.slice tb.EA tb.En tb.Ec))
            have ib := jb.trans (set3_below (W := x6) (B := W2.heap.size) (g := bB) (by omega) (.slice tb.TA tb.Tn tb.Tc) (.slice tb.CA tb.Cn tb.Cc) (.slice tb.EA tb.En tb.Ec))
            have i0 := set3_far (g := bB) j0 hne (.slice tb.TA tb.Tn tb.Tc) (.slice tb.CA tb.Cn tb.Cc) (.slice tb.EA tb.En tb.Ec)
            have i1 := set3_blk j1 (.slice tb.TA tb.Tn tb.Tc) (.slice tb.CA tb.Cn tb.Cc) (.slice tb.EA tb.En tb.Ec)
            rw [← hx7] at ik ib i0 i1
            exact ⟨bA, bB, ta, tb, rfl, rfl, hpa, hpb, i0, i1, hfa.keep ik, hfb.keep ik, ib⟩
          change K _ (set3 x6 bB (.slice tb.TA tb.Tn tb.Tc) (.slice tb.CA tb.Cn tb.Cc) (.slice tb.EA tb.En tb.Ec))
          rw [← hx7]
          have HRES := Lib.hid hres
          clear t0 t1 t2 zf0 zf1 zf2 hx7 hres
          refine hK.out _ _ trivial (fun hHeld => ?_)
          clear hK K
          try simp only [Act.put, List.getElem_toArray, List.getElem_cons_succ, List.getElem_cons_zero, List.setIfInBounds_toArray, List.set_cons_zero, List.set_cons_succ]
          refine wpAnyS_done (by kernel_rfl) ?_ _
          clear hHeld j0 j1 jk jb hfa hfb hkA hkB hpa hpb
          go_wp2_with fail
          go_meet
          case rel => exact HRES.out

      · skip
        go_simp
        obtain ⟨Y0AB, hnx⟩ : ∃ Y, Y = Y0A.alloc (.cells #[.slice none 0 0, .slice none 0 0, .slice none 0 0] 25) := ⟨_, rfl⟩
        have hst : Below Y0A.heap.size Y0A Y0AB := by rw [hnx]; exact (Below.refl _ _).alloc (Nat.le_refl _) _
        have hkB : Blk Y0AB Y0A.heap.size 25 #[.slice none 0 0, .slice none 0 0, .slice none 0 0] := by rw [hnx]; exact Blk.new Y0A _ _
        have hlB : W2.heap.size ≤ Y0A.heap.size := hb.size
        have hkA0 := hkA
        have hkA := blk_below hkA hst
        have hb := hb.trans (hst.mono hb.size)
        rw [← hnx]
        have hAB : bA < Y0A.heap.size := hkA0.lt
        generalize Y0A.heap.size = bB at *
        refine hK.out _ _ (HS.out _ hb) (fun hHeld => ?_)
        clear hK K hst hnx
        try simp only [Act.put, List.getElem_toArray, List.getElem_cons_succ, List.getElem_cons_zero, List.setIfInBounds_toArray, List.set_cons_zero, List.set_cons_succ]

        refine wpAnyS_ready (rs := [1]) (by kernel_rfl) (by simp) (AllReadyS.cons false (by kernel_rfl) (o := _) rfl (fun K hK => ?_) AllReadyS.nil)
        go_simp
        with_reducible refine (cx _ hb).mono ?_
        rintro en Y0ABp ⟨ta, rfl, hpa, hfa, hst⟩
        (try unfold Tab.V)
        have hfa := hfa.base hb.size
        have hkA := blk_below hkA hst
        have hkB := blk_below hkB hst
        have hb := hb.trans (hst.mono hb.size)
        refine hK.out _ _ (HS.out _ hb) (fun hHeld => ?_)
        clear hK K hst
        try simp only [Act.put, List.getElem_toArray, List.getElem_cons_succ, List.getElem_cons_zero, List.setIfInBounds_toArray, List.set_cons_zero, List.set_cons_succ]

        refine wpAnyS_ready (rs := [3]) (by kernel_rfl) (by simp) (AllReadyS.cons false (by kernel_rfl) (o := _) rfl (fun K hK => ?_) AllReadyS.nil)
        go_simp
        with_reducible refine (cy _ hb).mono ?_
        rintro en Y0ABpq ⟨tb, rfl, hpb, hfb, hst⟩
        (try unfold Tab.V)
        have hfb := hfb.base hb.size
        have hfa := hfa.below hst
        have hkA := blk_below hkA hst
        have hkB := blk_below hkB hst
        have hb := hb.trans (hst.mono hb.size)
        refine hK.out _ _ (HS.out _ hb) (fun hHeld => ?_)
        clear hK K hst
        try simp only [Act.put, List.getElem_toArray, List.getElem_cons_succ, List.getElem_cons_zero, List.setIfInBounds_toArray, List.set_cons_zero, List.set_cons_succ]

        generalize Y0ABpq = Y at *
        have hne : bA ≠ bB := by omega
        obtain ⟨⟨t0, t1, t2⟩, zf⟩ := blk_cells3 hkA
        have zf0 := zf 0
        have zf1 := zf 1
        have zf2 := zf 2
        clear zf
        refine wpAnyS_ready (rs := [6]) (by kernel_rfl) (by simp) (AllReadyS.cons false (by kernel_rfl) (o := _) rfl (fun K hK => ?_) AllReadyS.nil)
        go_simp
        obtain ⟨x6, hx6⟩ : ∃ x6, x6 = set3 Y bA (.slice ta.TA ta.Tn ta.Tc) (.slice ta.CA ta.Cn ta.Cc) (.slice ta.EA ta.En ta.Ec) := ⟨_, rfl⟩
        have j0 := set3_blk hkA (.slice ta.TA ta.Tn ta.Tc) (.slice ta.CA ta.Cn ta.Cc) (.slice ta.EA ta.En ta.Ec)
        have j1 := set3_far (g := bA) hkB (fun e => hne e.symm) (.slice ta.TA ta.Tn ta.Tc) (.slice ta.CA ta.Cn ta.Cc) (.slice ta.EA ta.En ta.Ec)
        have jk := set3_keep hkA (.slice ta.TA ta.Tn ta.Tc) (.slice ta.CA ta.Cn ta.Cc) (.slice ta.EA ta.En ta.Ec)
        have jb := hb.trans (set3_below (W := Y) (B := W2.heap.size) (g := bA) (by omega) (.slice ta.TA ta.Tn ta.Tc) (.slice ta.CA ta.Cn ta.Cc) (.slice ta.EA ta.En ta.Ec))
        rw [← hx6] at j0 j1 jk jb
        change K _ (set3 Y bA (.slice ta.TA ta.Tn ta.Tc) (.slice ta.CA ta.Cn ta.Cc) (.slice ta.EA ta.En ta.Ec))
        rw [← hx6]
        clear t0 t1 t2 zf0 zf1 zf2 hx6
        obtain ⟨⟨t0, t1, t2⟩, zf⟩ := blk_cells3 j1
        have zf0 := zf 0
        have zf1 := zf 1
        have zf2 := zf 2
        clear zf
        refine hK.out _ _ (HS.out _ jb) (fun hHeld => ?_)
        clear hK K
        try simp only [Act.put, List.getElem_toArray, List.getElem_cons_succ, List.getElem_cons_zero, List.setIfInBounds_toArray, List.set_cons_zero, List.set_cons_succ]
        refine wpAnyS_ready (rs := [7]) (by kernel_rfl) (by simp) (AllReadyS.cons true (by kernel_rfl) (o := _) rfl (fun K hK => ?_) AllReadyS.nil)
        go_simp
        obtain ⟨x7, hx7⟩ : ∃ x7, x7 = set3 x6 bB (.slice tb.TA tb.Tn tb.Tc) (.slice tb.CA tb.Cn tb.Cc) (.slice tb.EA tb.En tb.Ec) := ⟨_, rfl⟩
        have hres : OwnAB W2 (ownQ x.p) (ownQ y.p) (.pointer (some ⟨bA, 0, none⟩)) (.pointer (some ⟨bB, 0, none⟩)) x7 := by
          have ik := jk.trans (set3_keep j1 (.slice tb.TA tb.Tn tb.Tc) (.slice tb.CA tb.Cn tb.Cc) (.slice tb.EA tb.En tb.Ec))
          have ib := jb.trans (set3_below (W := x6) (B := W2.heap.size) (g := bB) (by omega) (.slice tb.TA tb.Tn tb.Tc) (.slice tb.CA tb.Cn tb.Cc) (.slice tb.EA tb.En tb.Ec))
          have i0 := set3_far (g := bB) j0 hne (.slice tb.TA tb.Tn tb.Tc) (.slice tb.CA tb.Cn tb.Cc) (.slice tb.EA tb.En tb.Ec)
          have i1 := set3_blk j1 (.slice tb.TA tb.Tn tb.Tc) (.slice tb.CA tb.Cn tb.Cc) (.slice tb.EA tb.En tb.Ec)
          rw [← hx7] at ik ib i0 i1
          exact ⟨bA, bB, ta, tb, rfl, rfl, hpa, hpb, i0, i1, hfa.keep ik, hfb.keep ik, ib⟩
        change K _ (set3 x6 bB (.slice tb.TA tb.Tn tb.Tc) (.slice tb.CA tb.Cn tb.Cc) (.slice tb.EA tb.En tb.Ec))
        rw [← hx7]
        have HRES := Lib.hid hres
        clear t0 t1 t2 zf0 zf1 zf2 hx7 hres
        refine hK.out _ _ trivial (fun hHeld => ?_)
        clear hK K
        try simp only [Act.put, List.getElem_toArray, List.getElem_cons_succ, List.getElem_cons_zero, List.setIfInBounds_toArray, List.set_cons_zero, List.set_cons_succ]
        refine wpAnyS_done (by kernel_rfl) ?_ _
        clear hHeld j0 j1 jk jb hfa hfb hkA hkB hpa hpb
        go_wp2_with fail
        go_meet
        case rel => exact HRES.out

    · skip
      go_simp
      obtain ⟨Y0B, hnx⟩ : ∃ Y, Y = Y0.alloc (.cells #[.slice none 0 0, .slice none 0 0, .slice none 0 0] 25) := ⟨_, rfl⟩
      have hst : Below Y0.heap.size Y0 Y0B := by rw [hnx]; exact (Below.refl _ _).alloc (Nat.le_refl _) _
      have hkB : Blk Y0B Y0.heap.size 25 #[.slice none 0 0, .slice none 0 0, .slice none 0 0] := by rw [hnx]; exact Blk.new Y0 _ _
      have hlB : W2.heap.size ≤ Y0.heap.size := hb.size
      have hb := hb.trans (hst.mono hb.size)
      rw [← hnx]

      generalize Y0.heap.size = bB at *
      refine hK.out _ _ (HS.out _ hb) (fun hHeld => ?_)
      clear hK K hst hnx
      try simp only [Act.put, List.getElem_toArray, List.getElem_cons_succ, List.getElem_cons_zero, List.setIfInBounds_toArray, List.set_cons_zero, List.set_cons_succ]

      refine wpAnyS_ready (rs := [1, 4]) (by kernel_rfl) (by simp) (AllReadyS.cons false (by kernel_rfl) (o := _) rfl (fun K hK => ?_) (AllReadyS.cons false (by kernel_rfl) (o := _) rfl (fun K hK => ?_) AllReadyS.nil))
      · skip
        go_simp
        with_reducible refine (cx _ hb).mono ?_
        rintro en Y0Bp ⟨ta, rfl, hpa, hfa, hst⟩
        (try unfold Tab.V)
        have hfa := hfa.base hb.size
        have hkB := blk_below hkB hst
        have hb := hb.trans (hst.mono hb.size)
        refine hK.out _ _ (HS.out _ hb) (fun hHeld => ?_)
        clear hK K hst
        try simp only [Act.put, List.getElem_toArray, List.getElem_cons_succ, List.getElem_cons_zero, List.setIfInBounds_toArray, List.set_cons_zero, List.set_cons_succ]

        refine wpAnyS_ready (rs := [3, 4]) (by kernel_rfl) (by simp) (AllReadyS.cons false (by kernel_rfl) (o := _) rfl (fun K hK => ?_) (AllReadyS.cons false (by kernel_rfl) (o := _) rfl (fun K hK => ?_) AllReadyS.nil))
        · skip
          go_simp
          with_reducible refine (cy _ hb).mono ?_
          rintro en Y0Bpq ⟨tb, rfl, hpb, hfb, hst⟩
          (try unfold Tab.V)
          have hfb := hfb.base hb.size
          have hfa := hfa.below hst
          have hkB := blk_below hkB hst
          have hb := hb.trans (hst.mono hb.size)
          refine hK.out _ _ (HS.out _ hb) (fun hHeld => ?_)
          clear hK K hst
          try simp only [Act.put, List.getElem_toArray, List.getElem_cons_succ, List.getElem_cons_zero, List.setIfInBounds_toArray, List.set_cons_zero, List.set_cons_succ]

          refine wpAnyS_ready (rs := [4]) (by kernel_rfl) (by simp) (AllReadyS.cons false (by kernel_rfl) (o := _) rfl (fun K hK => ?_) AllReadyS.nil)
          go_simp
          obtain ⟨Y0BpqA, hnx⟩ : ∃ Y, Y = Y0Bpq.alloc (.cells #[.slice none 0 0, .slice none 0 0, .slice none 0 0] 25) := ⟨_, rfl⟩
          have hst : Below Y0Bpq.heap.size Y0Bpq Y0BpqA := by rw [hnx]; exact (Below.refl _ _).alloc (Nat.le_refl _) _
          have hkA : Blk Y0BpqA Y0Bpq.heap.size 25 #[.slice none 0 0, .slice none 0 0, .slice none 0 0] := by rw [hnx]; exact Blk.new Y0Bpq _ _
          have hlA : W2.heap.size ≤ Y0Bpq.heap.size := hb.size
          have hfa := hfa.below hst
          have hfb := hfb.below hst
          have hkB0 := hkB
          have hkB := blk_below hkB hst
          have hb := hb.trans (hst.mono hb.size)
          rw [← hnx]
          have hAB : bB < Y0Bpq.heap.size := hkB0.lt
          generalize Y0Bpq.heap.size = bA at *
          refine hK.out _ _ (HS.out _ hb) (fun hHeld => ?_)
          clear hK K hst hnx
          try simp only [Act.put, List.getElem_toArray, List.getElem_cons_succ, List.getElem_cons_zero, List.setIfInBounds_toArray, List.set_cons_zero, List.set_cons_succ]

          generalize Y0BpqA = Y at *
          have hne : bA ≠ bB := by omega
          obtain ⟨⟨t0, t1, t2⟩, zf⟩ := blk_cells3 hkA
          have zf0 := zf 0
          have zf1 := zf 1
          have zf2 := zf 2
          clear zf
          refine wpAnyS_ready (rs := [6]) (by kernel_rfl) (by simp) (AllReadyS.cons false (by kernel_rfl) (o := _) rfl (fun K hK => ?_) AllReadyS.nil)
          go_simp
          obtain ⟨x6, hx6⟩ : ∃ x6, x6 = set3 Y bA (.slice ta.TA ta.Tn ta.Tc) (.slice ta.CA ta.Cn ta.Cc) (.slice ta.EA ta.En ta.Ec) := ⟨_, rfl⟩
          have j0 := set3_blk hkA (.slice ta.TA ta.Tn ta.Tc) (.slice ta.CA ta.Cn ta.Cc) (.slice ta.EA ta.En ta.Ec)
          have j1 := set3_far (g := bA) hkB (fun e => hne e.symm) (.slice ta.TA ta.Tn ta.Tc) (.slice ta.CA ta.Cn ta.Cc) (.slice ta.EA ta.En ta.Ec)
          have jk := set3_keep hkA (.slice ta.TA ta.Tn ta.Tc) (.slice ta.CA ta.Cn ta.Cc) (.slice ta.EA ta.En ta.Ec)
          have jb := hb.trans (set3_below (W := Y) (B := W2.heap.size) (g := bA) (by omega) (.slice ta.TA ta.Tn ta.Tc) (.slice ta.CA ta.Cn ta.Cc) (.slice ta.EA ta.En ta.Ec))
          rw [← hx6] at j0 j1 jk jb
          change K _ (set3 Y bA (.slice ta.TA ta.Tn ta.Tc) (.slice ta.CA ta.Cn ta.Cc) (.slice ta.EA ta.En ta.Ec))
          rw [← hx6]
          clear t0 t1 t2 zf0 zf1 zf2 hx6
          obtain ⟨⟨t0, t1, t2⟩, zf⟩ := blk_cells3 j1
          have zf0 := zf 0
          have zf1 := zf 1
          have zf2 := zf 2
          clear zf
          refine hK.out _ _ (HS.out _ jb) (fun hHeld => ?_)
          clear hK K
          try simp only [Act.put, List.getElem_toArray, List.getElem_cons_succ, List.getElem_cons_zero, List.setIfInBounds_toArray, List.set_cons_zero, List.set_cons_succ]
          refine wpAnyS_ready (rs := [7]) (by kernel_rfl) (by simp) (AllReadyS.cons true (by kernel_rfl) (o := _) rfl (fun K hK => ?_) AllReadyS.nil)
          go_simp
          obtain ⟨x7, hx7⟩ : ∃ x7, x7 = set3 x6 bB (.slice tb.TA tb.Tn tb.Tc) (.slice tb.CA tb.Cn tb.Cc) (.slice tb.EA tb.En tb.Ec) := ⟨_, rfl⟩
          have hres : OwnAB W2 (ownQ x.p) (ownQ y.p) (.pointer (some ⟨bA, 0, none⟩)) (.pointer (some ⟨bB, 0, none⟩)) x7 := by
            have ik := jk.trans (set3_keep j1 (.slice tb.TA tb.Tn tb.Tc) (.slice tb.CA tb.Cn tb.Cc) (.slice tb.EA tb.En tb.Ec))
            have ib := jb.trans (set3_below (W := x6) (B := W2.heap.size) (g := bB) (by omega) (.slice tb.TA tb.Tn tb.Tc) (.slice tb.CA tb.Cn tb.Cc) (.slice tb.EA tb.En tb.Ec))
            have i0 := set3_far (g := bB) j0 hne (.slice tb.TA tb.Tn tb.Tc) (.slice tb.CA tb.Cn tb.Cc) (.slice tb.EA tb.En tb.Ec)
            have i1 := set3_blk j1 (.slice tb.TA tb.Tn tb.Tc) (.slice tb.CA tb.Cn tb.Cc) (.slice tb.EA tb.En tb.Ec)
            rw [← hx7] at ik ib i0 i1
            exact ⟨bA, bB, ta, tb, rfl, rfl, hpa, hpb, i0, i1, hfa.keep ik, hfb.keep ik, ib⟩
          change K _ (set3 x6 bB (.slice tb.TA tb.Tn tb.Tc) (.slice tb.CA tb.Cn tb.Cc) (.slice tb.EA tb.En tb.Ec))
          rw [← hx7]
          have HRES := Lib.hid hres
          clear t0 t1 t2 zf0 zf1 zf2 hx7 hres
          refine hK.out _ _ trivial (fun hHeld => ?_)
          clear hK K
          try simp only [Act.put, List.getElem_toArray, List.getElem_cons_succ, List.getElem_cons_zero, List.setIfInBounds_toArray, List.set_cons_zero, List.set_cons_succ]
          refine wpAnyS_done (by kernel_rfl) ?_ _
          clear hHeld j0 j1 jk jb hfa hfb hkA hkB hpa hpb
          go_wp2_with fail
          go_meet
          case rel => exact HRES.out

        · skip
          go_simp
          obtain ⟨Y0BpA, hnx⟩ : ∃ Y, Y = Y0Bp.alloc (.cells #[.slice none 0 0, .slice none 0 0, .slice none 0 0] 25) := ⟨_, rfl⟩
          have hst : Below Y0Bp.heap.size Y0Bp Y0BpA := by rw [hnx]; exact (Below.refl _ _).alloc (Nat.le_refl _) _
          have hkA : Blk Y0BpA Y0Bp.heap.size 25 #[.slice none 0 0, .slice none 0 0, .slice none 0 0] := by rw [hnx]; exact Blk.new Y0Bp _ _
          have hlA : W2.heap.size ≤ Y0Bp.heap.size := hb.size
          have hfa := hfa.below hst
          have hkB0 := hkB
          have hkB := blk_below hkB hst
          have hb := hb.trans (hst.mono hb.size)
          rw [← hnx]
          have hAB : bB < Y0Bp.heap.size := hkB0.lt
          generalize Y0Bp.heap.size = bA at *
          refine hK.out _ _ (HS.out _ hb) (fun hHeld => ?_)
          clear hK K hst hnx
          try simp only [Act.put, List.getElem_toArray, List.getElem_cons_succ, List.getElem_cons_zero, List.setIfInBounds_toArray, List.set_cons_zero, List.set_cons_succ]

          refine wpAnyS_ready (rs := [3]) (by kernel_rfl) (by simp) (AllReadyS.cons false (by kernel_rfl) (o := _) rfl (fun K hK => ?_) AllReadyS.nil)
          go_simp
          with_reducible refine (cy _ hb).mono ?_
          rintro en Y0BpAq ⟨tb, rfl, hpb, hfb, hst⟩
          (try unfold Tab.V)
          have hfb := hfb.base hb.size
          have hfa := hfa.below hst
          have hkA := blk_below hkA hst
          have hkB := blk_below hkB hst
          have hb := hb.trans (hst.mono hb.size)
          refine hK.out _ _ (HS.out _ hb) (fun hHeld => ?_)
          clear hK K hst
          try simp only [Act.put, List.getElem_toArray, List.getElem_cons_succ, List.getElem_cons_zero, List.setIfInBounds_toArray, List.set_cons_zero, List.set_cons_succ]

          generalize Y0BpAq = Y at *
          have hne : bA ≠ bB := by omega
          obtain ⟨⟨t0, t1, t2⟩, zf⟩ := blk_cells3 hkA
          have zf0 := zf 0
          have zf1 := zf 1
          have zf2 := zf 2
          clear zf
          refine wpAnyS_ready (rs := [6]) (by kernel_rfl) (by simp) (AllReadyS.cons false (by kernel_rfl) (o := _) rfl (fun K hK => ?_) AllReadyS.nil)
          go_simp
          obtain ⟨x6, hx6⟩ : ∃ x6, x6 = set3 Y bA (.slice ta.TA ta.Tn ta.Tc) (.slice ta.CA ta.Cn ta.Cc) (.slice ta.EA ta.En ta.Ec) := ⟨_, rfl⟩
          have j0 := set3_blk hkA (.slice ta.TA ta.Tn ta.Tc) (.slice ta.CA ta.Cn ta.Cc) (.slice ta.EA ta.En ta.Ec)
          have j1 := set3_far (g := bA) hkB (fun e => hne e.symm) (.slice ta.TA ta.Tn ta.Tc) (.slice ta.CA ta.Cn ta.Cc) (.slice ta.EA ta.En ta.Ec)
          have jk := set3_keep hkA (.slice ta.TA ta.Tn ta.Tc) (.slice ta.CA ta.Cn ta.Cc) (.slice ta.EA ta.En ta.Ec)
          have jb := hb.trans (set3_below (W := Y) (B := W2.heap.size) (g := bA) (by omega) (.slice ta.TA ta.Tn ta.Tc) (.slice ta.CA ta.Cn ta.Cc) (.slice ta.EA ta.En ta.Ec))
          rw [← hx6] at j0 j1 jk jb
          change K _ (set3 Y bA (.slice ta.TA ta.Tn ta.Tc) (.slice ta.CA ta.Cn ta.Cc) (.slice ta.EA ta.En ta.Ec))
          rw [← hx6]
          clear t0 t1 t2 zf0 zf1 zf2 hx6
          obtain ⟨⟨t0, t1, t2⟩, zf⟩ := blk_cells3 j1
          have zf0 := zf 0
          have zf1 := zf 1
          have zf2 := zf 2
          clear zf
          refine hK.out _ _ (HS.out _ jb) (fun hHeld => ?_)
          clear hK K
          try simp only [Act.put, List.getElem_toArray, List.getElem_cons_succ, List.getElem_cons_zero, List.setIfInBounds_toArray, List.set_cons_zero, List.set_cons_succ]
          refine wpAnyS_ready (rs := [7]) (by kernel_rfl) (by simp) (AllReadyS.cons true (by kernel_rfl) (o := _) rfl (fun K hK => ?_) AllReadyS.nil)
          go_simp
          obtain ⟨x7, hx7⟩ : ∃ x7, x7 = set3 x6 bB (.slice tb.TA tb.Tn tb.Tc) (.slice tb.CA tb.Cn tb.Cc) (.slice tb.EA tb.En tb.Ec) := ⟨_, rfl⟩
          have hres : OwnAB W2 (ownQ x.p) (ownQ y.p) (.pointer (some ⟨bA, 0, none⟩)) (.pointer (some ⟨bB, 0, none⟩)) x7 := by
            have ik := jk.trans (set3_keep j1 (.slice tb.TA tb.Tn tb.Tc) (.slice tb.CA tb.Cn tb.Cc) (.slice tb.EA tb.En tb.Ec))
            have ib := jb.trans (set3_below (W := x6) (B := W2.heap.size) (g := bB) (by omega) (.slice tb.TA tb.Tn tb.Tc) (.slice tb.CA tb.Cn tb.Cc) (.slice tb.EA tb.En tb.Ec))
            have i0 := set3_far (g := bB) j0 hne (.slice tb.TA tb.Tn tb.Tc) (.slice tb.CA tb.Cn tb.Cc) (.slice tb.EA tb.En tb.Ec)
            have i1 := set3_blk j1 (.slice tb.TA tb.Tn tb.Tc) (.slice tb.CA tb.Cn tb.Cc) (.slice tb.EA tb.En tb.Ec)
            rw [← hx7] at ik ib i0 i1
            exact ⟨bA, bB, ta, tb, rfl, rfl, hpa, hpb, i0, i1, hfa.keep ik, hfb.keep ik, ib⟩
          change K _ (set3 x6 bB (.slice tb.TA tb.Tn tb.Tc) (.slice tb.CA tb.Cn tb.Cc) (.slice tb.EA tb.En tb.Ec))
          rw [← hx7]
          have HRES := Lib.hid hres
          clear t0 t1 t2 zf0 zf1 zf2 hx7 hres
          refine hK.out _ _ trivial (fun hHeld => ?_)
          clear hK K
          try simp only [Act.put, List.getElem_toArray, List.getElem_cons_succ, List.getElem_cons_zero, List.setIfInBounds_toArray, List.set_cons_zero, List.set_cons_succ]
          refine wpAnyS_done (by kernel_rfl) ?_ _
          clear hHeld j0 j1 jk jb hfa hfb hkA hkB hpa hpb
          go_wp2_with fail
          go_meet
          case rel => exact HRES.out

      · skip
        go_simp
        obtain ⟨Y0BA, hnx⟩ : ∃ Y, Y = Y0B.alloc (.cells #[.slice none 0 0, .slice none 0 0, .slice none 0 0] 25) := ⟨_, rfl⟩
        have hst : Below Y0B.heap.size Y0B Y0BA := by rw [hnx]; exact (Below.refl _ _).alloc (Nat.le_refl _) _
        have hkA : Blk Y0BA Y0B.heap.size 25 #[.slice none 0 0, .slice none 0 0, .slice none 0 0] := by rw [hnx]; exact Blk.new Y0B _ _
        have hlA : W2.heap.size ≤ Y0B.heap.size := hb.size
        have hkB0 := hkB
        have hkB := blk_below hkB hst
        have hb := hb.trans (hst.mono hb.size)
        rw [← hnx]
        have hAB : bB < Y0B.heap.size := hkB0.lt
        generalize Y0B.heap.size = bA at *
        refine hK.out _ _ (HS.out _ hb) (fun hHeld => ?_)
        clear hK K hst hnx
        try simp only [Act.put, List.getElem_toArray, List.getElem_cons_succ, List.getElem_cons_zero, List.setIfInBounds_toArray, List.set_cons_zero, List.set_cons_succ]

        refine wpAnyS_ready (rs := [1]) (by kernel_rfl) (by simp) (AllReadyS.cons false (by kernel_rfl) (o := _) rfl (fun K hK => ?_) AllReadyS.nil)
        go_simp
        with_reducible refine (cx _ hb).mono ?_
        rintro en Y0BAp ⟨ta, rfl, hpa, hfa, hst⟩
        (try unfold Tab.V)
        have hfa := hfa.base hb.size
        have hkA := blk_below hkA hst
        have hkB := blk_below hkB hst
        have hb := hb.trans (hst.mono hb.size)
        refine hK.out _ _ (HS.out _ hb) (fun hHeld => ?_)
        clear hK K hst
        try simp only [Act.put, List.getElem_toArray, List.getElem_cons_succ, List.getElem_cons_zero, List.setIfInBounds_toArray, List.set_cons_zero, List.set_cons_succ]

        refine wpAnyS_ready (rs := [3]) (by kernel_rfl) (by simp) (AllReadyS.cons false (by kernel_rfl) (o := _) rfl (fun K hK => ?_) AllReadyS.nil)
        go_simp
        with_reducible refine (cy _ hb).mono ?_
        rintro en Y0BApq ⟨tb, rfl, hpb, hfb, hst⟩
        (try unfold Tab.V)
        have hfb := hfb.base hb.size
        have hfa := hfa.below hst
        have hkA := blk_below hkA hst
        have hkB := blk_below hkB hst
        have hb := hb.trans (hst.mono hb.size)
        refine hK.out _ _ (HS.out _ hb) (fun hHeld => ?_)
        clear hK K hst
        try simp only [Act.put, List.getElem_toArray, List.getElem_cons_succ, List.getElem_cons_zero, List.setIfInBounds_toArray, List.set_cons_zero, List.set_cons_succ]

        generalize Y0BApq = Y at *
        have hne : bA ≠ bB := by omega
        obtain ⟨⟨t0, t1, t2⟩, zf⟩ := blk_cells3 hkA
        have zf0 := zf 0
        have zf1 := zf 1
        have zf2 := zf 2
        clear zf
        refine wpAnyS_ready (rs := [6]) (by kernel_rfl) (by simp) (AllReadyS.cons false (by kernel_rfl) (o := _) rfl (fun K hK => ?_) AllReadyS.nil)
        go_simp
        obtain ⟨x6, hx6⟩ : ∃ x6, x6 = set3 Y bA (.slice ta.TA ta.Tn ta.Tc) (.slice ta.CA ta.Cn ta.Cc) (.slice ta.EA ta.En ta.Ec) := ⟨_, rfl⟩
        have j0 := set3_blk hkA (.slice ta.TA ta.Tn ta.Tc) (.slice ta.CA ta.Cn ta.Cc) (.slice ta.EA ta.En ta.Ec)
        have j1 := set3_far (g := bA) hkB (fun e => hne e.symm) (.slice ta.TA ta.Tn ta.Tc) (.slice ta.CA ta.Cn ta.Cc) (.slice ta.EA ta.En ta.Ec)
        have jk := set3_keep hkA (.slice ta.TA ta.Tn ta.Tc) (.slice ta.CA ta.Cn ta.Cc) (.slice ta.EA ta.En ta.Ec)
        have jb := hb.trans (set3_below (W := Y) (B := W2.heap.size) (g := bA) (by omega) (.slice ta.TA ta.Tn ta.Tc) (.slice ta.CA ta.Cn ta.Cc) (.slice ta.EA ta.En ta.Ec))
        rw [← hx6] at j0 j1 jk jb
        change K _ (set3 Y bA (.slice ta.TA ta.Tn ta.Tc) (.slice ta.CA ta.Cn ta.Cc) (.slice ta.EA ta.En ta.Ec))
        rw [← hx6]
        clear t0 t1 t2 zf0 zf1 zf2 hx6
        obtain ⟨⟨t0, t1, t2⟩, zf⟩ := blk_cells3 j1
        have zf0 := zf 0
        have zf1 := zf 1
        have zf2 := zf 2
        clear zf
        refine hK.out _ _ (HS.out _ jb) (fun hHeld => ?_)
        clear hK K
        try simp only [Act.put, List.getElem_toArray, List.getElem_cons_succ, List.getElem_cons_zero, List.setIfInBounds_toArray, List.set_cons_zero, List.set_cons_succ]
        refine wpAnyS_ready (rs := [7]) (by kernel_rfl) (by simp) (AllReadyS.cons true (by kernel_rfl) (o := _) rfl (fun K hK => ?_) AllReadyS.nil)
        go_simp
        obtain ⟨x7, hx7⟩ : ∃ x7, x7 = set3 x6 bB (.slice tb.TA tb.Tn tb.Tc) (.slice tb.CA tb.Cn tb.Cc) (.slice tb.EA tb.En tb.Ec) := ⟨_, rfl⟩
        have hres : OwnAB W2 (ownQ x.p) (ownQ y.p) (.pointer (some ⟨bA, 0, none⟩)) (.pointer (some ⟨bB, 0, none⟩)) x7 := by
          have ik := jk.trans (set3_keep j1 (.slice tb.TA tb.Tn tb.Tc) (.slice tb.CA tb.Cn tb.Cc) (.slice tb.EA tb.En tb.Ec))
          have ib := jb.trans (set3_below (W := x6) (B := W2.heap.size) (g := bB) (by omega) (.slice tb.TA tb.Tn tb.Tc) (.slice tb.CA tb.Cn tb.Cc) (.slice tb.EA tb.En tb.Ec))
          have i0 := set3_far (g := bB) j0 hne (.slice tb.TA tb.Tn tb.Tc) (.slice tb.CA tb.Cn tb.Cc) (.slice tb.EA tb.En tb.Ec)
          have i1 := set3_blk j1 (.slice tb.TA tb.Tn tb.Tc) (.slice tb.CA tb.Cn tb.Cc) (.slice tb.EA tb.En tb.Ec)
          rw [← hx7] at ik ib i0 i1
          exact ⟨bA, bB, ta, tb, rfl, rfl, hpa, hpb, i0, i1, hfa.keep ik, hfb.keep ik, ib⟩
        change K _ (set3 x6 bB (.slice tb.TA tb.Tn tb.Tc) (.slice tb.CA tb.Cn tb.Cc) (.slice tb.EA tb.En tb.Ec))
        rw [← hx7]
        have HRES := Lib.hid hres
        clear t0 t1 t2 zf0 zf1 zf2 hx7 hres
        refine hK.out _ _ trivial (fun hHeld => ?_)
        clear hK K
        try simp only [Act.put, List.getElem_toArray, List.getElem_cons_succ, List.getElem_cons_zero, List.setIfInBounds_toArray, List.set_cons_zero, List.set_cons_succ]
        refine wpAnyS_done (by kernel_rfl) ?_ _
        clear hHeld j0 j1 jk jb hfa hfb hkA hkB hpa hpb
        go_wp2_with fail
        go_meet
        case rel => exact HRES.out


  case rest =>
  obtain ⟨bA, bB, a, b, rfl, rfl, hap, hbp, ka, kb, hfa, hfb, hb2⟩ := hcut
  obtain ⟨wA, rfl⟩ : ∃ wA, wA = wc := ⟨_, rfl⟩
  have q1 := psm_ownQ x.p
  have q2 := psm_ownQ y.p
  rw [← hap] at q1
  rw [← hbp] at q2
  obtain ⟨pa, la, _⟩ := q1
  obtain ⟨pb, lb, _⟩ := q2
  have hTa := fun (W : World) (h : Below wA.heap.size wA W) => ((hfa.ok.keep h).more h.size)
  have hTb := fun (W : World) (h : Below wA.heap.size wA W) => ((hfb.ok.keep h).more h.size)
  have sa := psm_sm hfa.ok pa
  have sb := psm_sm hfb.ok pb
  have nla := hfa.ok.nl
  have nlb := hfb.ok.nl
  have lea : a.es.length ≤ 30 := la
  have leb : b.es.length ≤ 30 := lb
  have hEa : a.es.length = a.En := hfa.ok.len.2.2
  have hEb : b.es.length = b.En := hfb.ok.len.2.2
  have hTl : a.ty.length = a.Tn := hfa.ok.len.1
  have cmv := move_any a b row wA (hTa wA (Below.refl _ _)) (hTb wA (Below.refl _ _)) sa.1 sb.1 ⟨sa.2.1.1, sa.2.1.2.1, sa.2.1.2.2.1⟩ ⟨sb.2.1.1, sb.2.1.2.1, sb.2.2⟩
  have HPK := Lib.hid (fun (h0 : mvE a b row = 0) => back_pack h0 hfa.ok.esw hfb.ok.esw nla nlb hEb (by omega) pa pb lea leb)
  have HNO := Lib.hid (show mvE a b row ≠ 0 → mvF a b row = noT ∧ mvT a b row = noT ∧ mvR a b row = 0 ∧ mvM a b row = 0 from fun h => by
    unfold mvF mvT mvR mvM
    rw [if_neg h, if_neg h, if_neg h, if_neg h]
    exact ⟨rfl, rfl, rfl, rfl⟩)
  have HLO := Lib.hid (fun (W : World) (h : Below wA.heap.size wA W) => lost_any a b W (hTa W h) (hTb W h) sa.1 sb.1 sa.2.1.2.1 sb.2.1.2.1)
  have HTA := Lib.hid hTa
  have HTB := Lib.hid hTb
  have HSA := Lib.hid sa
  have HSB := Lib.hid sb
  have HPB := Lib.hid pb
  have HKA := Lib.hid (fun (W : World) (h : Below wA.heap.size wA W) => And.intro (blk_cells3 (blk_below ka h)).1 (blk_cells3 (blk_below kb h)).1)
  have HBC := Lib.hid (HBW.out.trans (hb2.mono HBW.out.size))
  have hea : a.En ≤ 30 := by omega
  have hta : a.Tn ≤ 65536 := sa.2.1.2.1
  have heb : b.En ≤ 30 := by omega
  have HEE := Lib.hid (And.intro hEa (And.intro hEb hTl))
  obtain ⟨⟨a0, a1, a2⟩, ⟨b0, b1, b2⟩⟩ := HKA.out wA (Below.refl _ _)
  clear ka kb hfa hfb hb2 pa pb la lb hap hbp hTa hTb hx0 sa sb nla nlb lea leb hEa hEb hTl cx cy
  generalize mvE a b row = er at *
  generalize mvF a b row = pf at *
  generalize mvT a b row = pt at *
  generalize mvR a b row = mr at *
  generalize mvM a b row = mm at *
  unfold MovR at cmv
  unfold Tab.V at cmv
  go_upto_region 5 with (first
    | (go_at_call 50; ((with_reducible refine cmv.mono ?_); rintro en w4 ⟨tf, tt, wm, rfl, hpf, hpt, htt, hbm, hkm, htf, hb4⟩))
    | fail)
  obtain ⟨X8, hX8⟩ : ∃ X8, X8 = w4.alloc (.cells #[.slice tf.TA tf.Tn tf.Tc, .slice tf.CA tf.Cn tf.Cc, .slice tf.EA tf.En tf.Ec, .slice tt.TA tt.Tn tt.Tc, .slice tt.CA tt.Cn tt.Cc, .slice tt.EA tt.En tt.Ec, .int .i64 mr, .int .u64 mm] 82) := ⟨_, rfl⟩
  have h48 : Below w4.heap.size w4 X8 := by rw [hX8]; exact (Below.refl _ _).alloc (Nat.le_refl _) _
  have k8 : Blk X8 w4.heap.size 82 #[.slice tf.TA tf.Tn tf.Tc, .slice tf.CA tf.Cn tf.Cc, .slice tf.EA tf.En tf.Ec, .slice tt.TA tt.Tn tt.Tc, .slice tt.CA tt.Cn tt.Cc, .slice tt.EA tt.En tt.Ec, .int .i64 mr, .int .u64 mm] := by rw [hX8]; exact Blk.new w4 _ _
  rw [← hX8]
  have hx8 : Below wA.heap.size wA X8 := hb4.trans (h48.mono hb4.size)
  have hTf := (htf.below h48).ok
  have hTt := (htt.keep (hkm.trans (KeepT.below h48))).ok
  have hfl := hTf.len.2.2
  have htl := hTt.len.2.2
  have HX8 := Lib.hid hx8
  have HK8 := Lib.hid (fun (W : World) (h : Below X8.heap.size X8 W) => And.intro (blk_cells8 (blk_below k8 h)).1 (HKA.out W (hx8.trans (h.mono hx8.size))))
  obtain ⟨⟨c0, c1, c2, c3, c4, c5, c6, c7⟩, ⟨a0, a1, a2⟩, ⟨b0, b1, b2⟩⟩ := HK8.out X8 (Below.refl _ _)
  generalize w4.heap.size = b9 at *
  clear hX8 h48 k8 hkm htf htt hbm hb4 cmv hx8
  by_cases her : er = 0
  rotate_left
  · have d1 : (er != 0) = true := by simpa using her
    obtain ⟨rfl, rfl, rfl, rfl⟩ := HNO.out her
    have hz1 : tf.En = 0 := by rw [← hfl, show tf.es = [] from congrArg (fun p : PT => p.2.2) hpf]; rfl
    have hz2 : tt.En = 0 := by rw [← htl, show tt.es = [] from congrArg (fun p : PT => p.2.2) hpt]; rfl
    rw [hz1] at c2
    rw [hz2] at c5
    clear HPK hpf hpt her hfl htl hTf hTt
    go_wp2_with fail
    rw [← HPO.out]
    exact ⟨rfl, HBC.out.trans (HX8.out.mono HBC.out.size)⟩
  obtain ⟨hEf, hEt, hlen, hE2, hF2, hsh, pf1, pt1, hu⟩ := HPK.out her tf tt hpf hpt hTf.nl hTt.nl
  subst her
  have sf := psm_sm hTf pf1
  have st := psm_sm hTt pt1
  have hTf' := fun (W : World) (h : Below X8.heap.size X8 W) => ((hTf.keep h).more h.size)
  have hTt' := fun (W : World) (h : Below X8.heap.size X8 W) => ((hTt.keep h).more h.size)
  have ctf := tabchk_any tf X8 hTf sf.1
  have ctt := fun (W : World) (h : Below X8.heap.size X8 W) => tabchk_any tt W (hTt' W h) st.1
  rw [hEf] at ctf
  rw [hEt] at ctt
  have hmi : (tf.En : Int) + (tt.En : Int) = (a.En : Int) + (b.En : Int) := by have h1 := HEE.out.1; have h2 := HEE.out.2.1; omega
  have d2 : (((tf.En : Int) + (tt.En : Int)) != ((a.En : Int) + (b.En : Int))) = false := by rw [hmi]; simp
  have hef : tf.En ≤ 60 := by omega
  have het : tt.En ≤ 60 := by omega
  have CMV := Lib.hid (fun (W : World) (h : Below X8.heap.size X8 W) => move_any tt tf mr W (hTt' W h) (hTf' W h) st.1 sf.1 ⟨st.2.1.1, st.2.1.2.1, st.2.1.2.2.1⟩ ⟨sf.2.1.1, sf.2.1.2.1, sf.2.2⟩)
  rw [hE2, hF2] at CMV
  rw [hsh, if_pos rfl] at HLO
  generalize mvT tt tf mr = pt2 at *
  generalize mvR tt tf mr = mr2 at *
  generalize mvM tt tf mr = mm2 at *
  have HU := Lib.hid hu
  unfold Tab.V at ctf ctt
  clear hE2 hF2 hsh hu hlen hEf hEt hTf hTt hTf' hTt' sf st pf1 pt1 hfl htl hpf hpt HPK HNO hmi
  go_upto_region 9 with (first
    | (go_at_call 34; (first | ((with_reducible refine ctf.mono ?_); rintro en w5 ⟨rfl, hb5⟩; obtain ⟨⟨c0, c1, c2, c3, c4, c5, c6, c7⟩, ⟨a0, a1, a2⟩, ⟨b0, b1, b2⟩⟩ := HK8.out _ hb5; clear ctf) | ((with_reducible refine (ctt _ hb5).mono ?_); rintro en w6 ⟨rfl, hb6⟩; have hb56 := hb5.trans (hb6.mono hb5.size); obtain ⟨⟨c0, c1, c2, c3, c4, c5, c6, c7⟩, ⟨a0, a1, a2⟩, ⟨b0, b1, b2⟩⟩ := HK8.out _ hb56)))
    | fail)
  clear ctt hb5 hb6 d2 hef het
  have cmv := CMV.out w6 hb56
  unfold MovR at cmv
  unfold Tab.V at cmv
  have HB56 := Lib.hid hb56
  clear hb56
  go_upto_region 10 with (first
    | (go_at_call 50; ((with_reducible refine cmv.mono ?_); rintro en w7 ⟨uf, ut, wm, rfl, hpf, hpt, htt, hbm, hkm, htf, hb7⟩))
    | fail)
  obtain ⟨X9, hX9⟩ : ∃ X9, X9 = w7.alloc (.cells #[.slice uf.TA uf.Tn uf.Tc, .slice uf.CA uf.Cn uf.Cc, .slice uf.EA uf.En uf.Ec, .slice ut.TA ut.Tn ut.Tc, .slice ut.CA ut.Cn ut.Cc, .slice ut.EA ut.En ut.Ec, .int .i64 mr2, .int .u64 mm2] 82) := ⟨_, rfl⟩
  have h79 : Below w7.heap.size w7 X9 := by rw [hX9]; exact (Below.refl _ _).alloc (Nat.le_refl _) _
  have k9 : Blk X9 w7.heap.size 82 #[.slice uf.TA uf.Tn uf.Tc, .slice uf.CA uf.Cn uf.Cc, .slice uf.EA uf.En uf.Ec, .slice ut.TA ut.Tn ut.Tc, .slice ut.CA ut.Cn ut.Cc, .slice ut.EA ut.En ut.Ec, .int .i64 mr2, .int .u64 mm2] := by rw [hX9]; exact Blk.new w7 _ _
  rw [← hX9]
  have h89 : Below X8.heap.size X8 X9 := HB56.out.trans ((hb7.trans (h79.mono hb7.size)).mono HB56.out.size)
  have hA9 : Below wA.heap.size wA X9 := HX8.out.trans (h89.mono HX8.out.size)
  have hTu := (htf.below h79).ok
  have hTv := (htt.keep (hkm.trans (KeepT.below h79))).ok
  obtain ⟨hpsv, hvals⟩ := HU.out ut hTv.nl hpt
  have HVALS := Lib.hid hvals
  have sv := psm_sm hTv hpsv
  have HK9 := Lib.hid (fun (W : World) (h : Below X9.heap.size X9 W) => And.intro (blk_cells8 (blk_below k9 h)).1 (HKA.out W (hA9.trans (h.mono hA9.size))))
  have HTU := Lib.hid (fun (W : World) (h : Below X9.heap.size X9 W) => (hTu.keep h).more h.size)
  have HTV := Lib.hid (fun (W : World) (h : Below X9.heap.size X9 W) => (hTv.keep h).more h.size)
  have HSV := Lib.hid sv
  have HA9 := Lib.hid hA9
  have clo := HLO.out X9 hA9
  have HPU := Lib.hid hpf
  obtain ⟨⟨c0, c1, c2, c3, c4, c5, c6, c7⟩, ⟨a0, a1, a2⟩, ⟨b0, b1, b2⟩⟩ := HK9.out X9 (Below.refl _ _)
  unfold LostR at clo
  unfold Tab.V at clo
  generalize w7.heap.size = b11 at *
  clear hX9 h79 k9 h89 hA9 hTu hTv hvals hpsv sv hkm htf htt hbm hb7 cmv hpf hpt
  go_upto_region 11 with (first
    | (go_at_call 57; ((with_reducible refine clo.mono ?_); rintro en wL ⟨LA, ln, lc, rfl, hRL, hbL⟩))
    | fail)
  have csm := tsame_any uf b wL (HTU.out wL hbL) (HTB.out wL (HA9.out.trans (hbL.mono HA9.out.size))) (psm_sm (HTU.out wL hbL) (by rw [HPU.out]; exact HPB.out)).1 HSB.out.1
  rw [tabQ_p HPU.out] at csm
  obtain ⟨⟨c0, c1, c2, c3, c4, c5, c6, c7⟩, ⟨a0, a1, a2⟩, ⟨b0, b1, b2⟩⟩ := HK9.out wL hbL
  have HRL := Lib.hid hRL
  have HBL := Lib.hid hbL
  unfold Tab.V at csm
  clear hRL hbL clo
  go_upto_region 13 with (first
    | (go_at_call 36; ((with_reducible refine csm.mono ?_); rintro en w1 ⟨rfl, hb1⟩))
    | fail)
  have h91 : Below X9.heap.size X9 w1 := HBL.out.trans (hb1.mono HBL.out.size)
  obtain ⟨_, ⟨a0, a1, a2⟩, _⟩ := HK9.out w1 h91
  have HRL1 := Lib.hid (fun (W : World) (h : Below w1.heap.size w1 W) => ((HRL.out.below hb1).more hb1.size).below h |>.more h.size)
  have H91 := Lib.hid h91
  have HLL := Lib.hid (show ln ≤ 65536 from by
    have h1 := HRL.out.1
    rw [ids_len] at h1
    have h2 := keepL_le b.ty a.ty
    have h3 := HSA.out.2.1.2.1
    have h4 := HEE.out.2.2
    omega)
  obtain ⟨EAv, hEAv⟩ : ∃ Z, Z = a.EA := ⟨_, rfl⟩
  rw [← hEAv] at a2
  have HEAV := Lib.hid hEAv
  clear hEAv hb1 h91 csm c0 c1 c2 c3 c4 c5 c6 c7 b0 b1 b2
  obtain ⟨iu, hiu, hzu0, hzu1, hzu2⟩ := info_parts info_u64
  go_wp2_with fail
  go_loopw [110] (fun i wr => ∃ k : Nat, k ≤ a.En ∧ i = .int .i64 k ∧ Below w1.heap.size w1 wr)
    (fun i _ => a.En - (intOf i).toNat)
  case atStart => exact ⟨0, Nat.zero_le _, rfl, Below.refl _ _⟩
  case round =>
    clear a0 a1 a2
    obtain ⟨i, hk, rfl, hb⟩ := hrel
    have h9r := H91.out.trans (hb.mono H91.out.size)
    by_cases hlt : i < a.En
    · have e1 := List.getElem?_eq_getElem (l := a.es) (i := i) (by rw [HEE.out.1]; exact hlt)
      generalize a.es[i]'(by rw [HEE.out.1]; exact hlt) = who at e1
      obtain ⟨bE, oE, hEA, hlE, gE⟩ := ids_cell (HTA.out wr (HA9.out.trans (h9r.mono HA9.out.size))).es e1
      obtain rfl : EAv = some ⟨bE, oE, none⟩ := HEAV.out.trans hEA
      obtain ⟨hrk, k, hri, hv⟩ := HVALS.out i who e1
      have crw := trow_any ut who wr (HTV.out wr h9r) HSV.out.1
      rw [hrk, hri] at crw
      have i1 : (i : Int) < (a.En : Int) := by omega
      have HV := Lib.hid hv
      obtain ⟨⟨c0, c1, c2, c3, c4, c5, c6, c7⟩, ⟨a0, a1, a2⟩, _⟩ := HK9.out wr h9r
      unfold Tab.V at crw
      clear hv hrk hri hEA e1
      go_upto_region 19 with (first
        | (go_at_call 26; ((with_reducible refine crw.mono ?_); rintro en w2 ⟨rfl, hb2⟩))
        | fail)
      have h12 := hb.trans (hb2.mono hb.size)
      have h9r2 := H91.out.trans (h12.mono H91.out.size)
      obtain ⟨_, ⟨a0, a1, a2⟩, _⟩ := HK9.out w2 h9r2
      obtain ⟨TAv, hTAv⟩ : ∃ Z, Z = a.TA := ⟨_, rfl⟩
      rw [← hTAv] at a0
      have HTAV := Lib.hid hTAv
      have H12 := Lib.hid h12
      clear hTAv h9r h9r2 h12 hb2 crw c0 c1 c2 c3 c4 c5 c6 c7 gE hb
      go_wp2_with fail
      obtain ⟨wo, rfl⟩ : ∃ wo, wo = w2 := ⟨_, rfl⟩
      clear a0 a1 a2
      go_hide hQ
      go_loopw [127] (fun j wr => ∃ c : Nat, c ≤ a.Tn ∧ j = .int .i64 c ∧ Below w1.heap.size w1 wr)
        (fun j _ => a.Tn - (intOf j).toNat)
      case atStart => exact ⟨0, Nat.zero_le _, rfl, H12.out⟩
      case round =>
        obtain ⟨c, hc, rfl, hb⟩ := hrel
        have h9r := H91.out.trans (hb.mono H91.out.size)
        by_cases hct : c < a.Tn
        · have e1 := List.getElem?_eq_getElem (l := a.ty) (i := c) (by rw [HEE.out.2.2]; exact hct)
          generalize a.ty[c]'(by rw [HEE.out.2.2]; exact hct) = id at e1
          have hAr := HA9.out.trans (h9r.mono HA9.out.size)
          obtain ⟨bT, oT, hTAe, hlT, gT⟩ := ids_cell (HTA.out wr hAr).ty e1
          obtain rfl : TAv = some ⟨bT, oT, none⟩ := HTAV.out.trans hTAe
          obtain ⟨g1, g2, hl4, hval⟩ := HV.out c id e1
          have cga := tget_any a (i : Int) id wr (HTA.out wr hAr) HSA.out.1
          have cgu := fun (W : World) (h : Below X9.heap.size X9 W) => tget_any ut (k : Int) id W (HTV.out W h) HSV.out.1
          rw [g1] at cga
          rw [g2] at cgu
          have hkl := keepL_in (b := b.ty) e1
          have ccn := fun (W : World) (h : Below w1.heap.size w1 W) => contains_d LA ln lc (keepL b.ty a.ty) id W (HRL1.out W h) (by have := HLL.out; omega)
          rw [hkl] at ccn
          unfold ValR at cga cgu
          generalize tgL a (i : Int) id = l1 at *
          generalize tgL ut (k : Int) id = l2 at *
          have i2 : (c : Int) < (a.Tn : Int) := by omega
          obtain ⟨⟨c0, c1, c2, c3, c4, c5, c6, c7⟩, ⟨a0, a1, a2⟩, _⟩ := HK9.out wr h9r
          unfold Tab.V at cga cgu
          have HVAL := Lib.hid hval
          clear g1 g2 hkl hTAe hlT e1 hval
          go_upto_region 24 with (first
            | (go_at_call 31; (first
                | ((with_reducible refine cga.mono ?_); rintro en w5 ⟨v5, rfl, ho5, hb5⟩; obtain ⟨A5, n5, rfl⟩ := own_slice ho5; have h95 := h9r.trans (hb5.mono h9r.size); obtain ⟨⟨c0, c1, c2, c3, c4, c5, c6, c7⟩, ⟨a0, a1, a2⟩, _⟩ := HK9.out w5 h95; clear cga)
                | ((with_reducible refine (cgu _ h95).mono ?_); rintro en w6 ⟨v6, rfl, ho6, hb6⟩; obtain ⟨A6, n6, rfl⟩ := own_slice ho6)))
            | fail)
          clear cgu c0 c1 c2 c3 c4 c5 c6 c7 a0 a1 a2 gT hAr h95
          have ho56 := own_below ho5 hb6
          have h16 : Below w1.heap.size w1 w6 := hb.trans ((hb5.trans (hb6.mono hb5.size)).mono hb.size)
          have hR5 := Reads.of_own ho56
          have hR6 := Reads.of_own ho6
          have cc := ccn w6 h16
          have H16 := Lib.hid h16
          clear ho5 ho6 ho56 hb5 hb6 ccn h9r hb
          have hval := HVAL.out
          clear HVAL
          by_cases hir : (i : Int) = row
          · subst hir
            cases hcb : b.ty.contains id with
            | false =>
              rw [hcb] at cc
              rw [hcb, if_pos ⟨rfl, rfl⟩] at hval
              subst hval
              clear hcb
              go_upto_region 26 with (first
                | (go_at_call 58; ((with_reducible refine cc.mono ?_); rintro en w7 ⟨rfl, rfl⟩))
                | (refine wpList_make_row w6 rfl (.tmp 155) (.tmp 155) 44 rfl 26 iu (.int .u64 0) Try.underlying44 hiu hzu0 hzu1 rfl .i64 .i64 l1.length rfl rfl (by rw [hzu2]; omega) (by omega) ?_)
                | fail)
              obtain ⟨wz, hwz⟩ : ∃ wz, wz = w6.alloc (.cells (madeCells #[.int .u64 0] l1.length) 26) := ⟨_, rfl⟩
              have hzb : Below w6.heap.size w6 wz := by rw [hwz]; exact (Below.refl _ _).alloc (Nat.le_refl _) _
              have hzo := zeros_own w6 l1.length (made_zeros l1.length) (by omega)
              rw [← hwz] at hzo
              rw [← hwz]
              have csv := same_v (some ⟨w6.heap.size, 0, none⟩) l1.length l1.length (zerosL l1.length) A6 (zerosL l1.length).length n6 (zerosL l1.length) wz (Reads.of_own hzo) ((hR6.below hzb).more hzb.size) (by omega) (by unfold zerosL; rw [List.length_replicate]; omega)
              rw [show (zerosL l1.length == zerosL l1.length) = true from by simp] at csv
              have h1z := H16.out.trans (hzb.mono H16.out.size)
              clear hwz hzb hzo hR5 hR6 cc
              go_wp2_with (first
                | (go_at_call 35; ((with_reducible refine csv.mono ?_); rintro en w8 ⟨rfl, hb8⟩))
                | fail)
              go_roundw
              case rel => exact ⟨c + 1, by omega, by go_num, h1z.trans (hb8.mono h1z.size)⟩
              case measure => simp [intOf]; omega
            | true =>
              rw [hcb] at cc
              rw [hcb, if_neg (by simp)] at hval
              subst hval
              have csv := same_v A5 l2.length n5 l2 A6 l2.length n6 l2 w6 hR5 hR6 (by omega) (by omega)
              rw [show (l2 == l2) = true from by simp] at csv
              clear hcb hR5 hR6
              go_wp2_with (first
                | (go_at_call 58; ((with_reducible refine cc.mono ?_); rintro en w7 ⟨rfl, rfl⟩))
                | (go_at_call 35; ((with_reducible refine csv.mono ?_); rintro en w8 ⟨rfl, hb8⟩))
                | fail)
              go_roundw
              case rel => exact ⟨c + 1, by omega, by go_num, H16.out.trans (hb8.mono H16.out.size)⟩
              case measure => simp [intOf]; omega
          · have d1 : ((i : Int) == row) = false := by simpa using hir
            rw [if_neg (fun h => hir h.1)] at hval
            subst hval
            have csv := same_v A5 l2.length n5 l2 A6 l2.length n6 l2 w6 hR5 hR6 (by omega) (by omega)
            rw [show (l2 == l2) = true from by simp] at csv
            clear hir hR5 hR6
            go_wp2_with (first
              | (go_at_call 58; ((with_reducible refine cc.mono ?_); rintro en w7 ⟨rfl, rfl⟩))
              | (go_at_call 35; ((with_reducible refine csv.mono ?_); rintro en w8 ⟨rfl, hb8⟩))
              | fail)
            go_roundw
            case rel => exact ⟨c + 1, by omega, by go_num, H16.out.trans (hb8.mono H16.out.size)⟩
            case measure => simp [intOf]; omega
        · have : c = a.Tn := by omega
          subst this
          have i2 : ¬ ((a.Tn : Int) < (a.Tn : Int)) := by omega
          subst hQ
          go_wp2_with fail
          go_roundw
          case rel => exact ⟨i + 1, by omega, by go_num, hb⟩
          case measure => simp [intOf]; omega
    · have : i = a.En := by omega
      subst this
      have i1 : ¬ ((a.En : Int) < (a.En : Int)) := by omega
      go_wp2_with fail
      rw [← HPO.out]
      have hAr := HA9.out.trans (h9r.mono HA9.out.size)
      exact ⟨rfl, HBC.out.trans (hAr.mono HBC.out.size)⟩
theorem back_row (x y : Tab) (row : Int) (hwf : (Lit.int .i64 row).wf = true) (w : World) (hx : TabOk w w.heap.size x) (hy : TabOk w w.heap.size y) :
    Calls Try.prog 12 #[x.V, y.V, .int .i64 row] w fun en w' => en = .returned (.bool true) ∧ Below w.heap.size w w' := back_walk x y row w hx hy
end Go.Proofs.Ytbcbknajhdaneaa
