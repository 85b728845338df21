/- What is proved: ShiftMoves's walk. -/
import Derived.Test.YtbcbknajhdaneaaQSf1
import Derived.Test.YtbcbknajhdaneaaQSd1
import Derived.Deep.CutRange
import Derived.Deep.CutBlock
namespace Go.Proofs.Ytbcbknajhdaneaa
open Go.RowKit Go.Maps
set_option linter.unusedVariables false
set_option linter.unusedSimpArgs false
set_option maxRecDepth 100000 in
set_option maxHeartbeats 16000000 in
theorem moves_walk (x y : Tab) (RA : Option Addr) (rn rc : Nat) (ws : List Int) (w : World) (hx : TabOk w w.heap.size x) (hy : TabOk w w.heap.size y) (hR : Reads w w.heap.size 1 RA rn (ins ws)) :
    Calls Try.prog 10 #[x.V, y.V, .slice RA rn rc] w fun e w' => e = .returned (.bool true) ∧ Below w.heap.size w w' := by
  obtain ⟨W0, hW0, hB, hsz, k0, k1⟩ := two_blk w 25 25 #[.slice x.TA x.Tn x.Tc, .slice x.CA x.Cn x.Cc, .slice x.EA x.En x.Ec] #[.slice y.TA y.Tn y.Tc, .slice y.CA y.Cn y.Cc, .slice y.EA y.En y.Ec]
  have hTx := fun (W : World) (h : Below W0.heap.size W0 W) => (hx.keep (hB.trans (h.mono hB.size))).more (hB.trans (h.mono hB.size)).size
  have hTy := fun (W : World) (h : Below W0.heap.size W0 W) => (hy.keep (hB.trans (h.mono hB.size))).more (hB.trans (h.mono hB.size)).size
  have cwk := fun W => wakes11_any W
  have hwl : ws.length = rn := by have := hR.1; rw [ins_len] at this; omega
  have HW := Lib.hid hW0
  have HB := Lib.hid hB
  have HK := Lib.hid (fun (W : World) (h : Below W0.heap.size W0 W) => And.intro (blk_cells3 (blk_below k0 h)).1 (blk_cells3 (blk_below k1 h)).1)
  have HTX := Lib.hid hTx
  have HTY := Lib.hid hTy
  have HRR := Lib.hid hR
  have HWL := Lib.hid hwl
  generalize hpost : (fun e w' => e = Ending.returned (.bool true) ∧ Below w.heap.size w w') = POST
  have HPO := Lib.hid hpost
  unfold Tab.V
  clear hW0 hsz k0 k1 hx hy hB hTx hTy hpost hR hwl
  go_enter Try.func10, Try.ntmps10
  go_upto_region 1 with fail
  rw [← HW.out]
  go_upto_region 3 with (first
    | (go_at_call 48; ((with_reducible refine (cwk _).mono ?_); rintro en W2 ⟨rfl, hbw⟩))
    | fail)
  have cx := fun (W : World) (h : Below W2.heap.size W2 W) => own11_any x W (HTX.out W (hbw.trans (h.mono hbw.size)))
  have cy := fun (W : World) (h : Below W2.heap.size W2 W) => own11_any y W (HTY.out W (hbw.trans (h.mono hbw.size)))
  unfold OwnT at cx cy
  unfold Tab.V at cx cy
  have HS := Lib.hid (fun (W : World) (h : Below W2.heap.size W2 W) => HK.out W (hbw.trans (h.mono hbw.size)))
  have hx0 := HS.out W2 (Below.refl _ _)
  have HBW := Lib.hid (HB.out.trans (hbw.mono HB.out.size))
  clear hbw cwk
  go_cut [7, 8] from 17 to 20 (fun s5 s6 wx => OwnAB W2 (ownQ x.p) (ownQ y.p) s5 s6 wx)
  case first =>
    refine wp_region_stop 7 (fun b w' => match b with | true => True | false => (w'.cell? ⟨w.heap.size, 0, none⟩ = some (.slice x.TA x.Tn x.Tc) ∧ w'.cell? ⟨w.heap.size, 1, none⟩ = some (.slice x.CA x.Cn x.Cc) ∧ w'.cell? ⟨w.heap.size, 2, none⟩ = some (.slice x.EA x.En x.Ec)) ∧ (w'.cell? ⟨w.heap.size + 1, 0, none⟩ = some (.slice y.TA y.Tn y.Tc) ∧ w'.cell? ⟨w.heap.size + 1, 1, none⟩ = some (.slice y.CA y.Cn y.Cc) ∧ w'.cell? ⟨w.heap.size + 1, 2, none⟩ = some (.slice y.EA y.En y.Ec))) (by kernel_rfl) hx0 (fun hHeld => ?_)
    obtain ⟨Y0, hY0⟩ : ∃ Y0, Y0 = W2.drew := ⟨_, rfl⟩
    have hb : Below W2.heap.size W2 Y0 := by rw [hY0]; exact (Below.refl _ _).drew
    rw [← hY0] at hHeld
    rw [← hY0]
    clear hY0 hx0
    refine wpAnyS_take (i := 0) (oi := _) (v := ?_) rfl (by kernel_rfl) (by kernel_rfl) (by kernel_rfl) (by kernel_rfl) (by kernel_rfl) (fun _ _ _ h => h) (Or.inl ⟨by rfl, ?_⟩) hHeld ?_
    rotate_left
    · intro w hSw; obtain ⟨⟨s0, s1, s2⟩, s3, s4, s5⟩ := hSw; go_simp; try with_reducible rfl
    simp only [Act.put, List.getElem_toArray, List.getElem_cons_succ, List.getElem_cons_zero, List.setIfInBounds_toArray, List.set_cons_zero, List.set_cons_succ]
    refine wpAnyS_take (i := 2) (oi := _) (v := ?_) rfl (by kernel_rfl) (by kernel_rfl) (by kernel_rfl) (by kernel_rfl) (by kernel_rfl) (fun _ _ _ h => h) (Or.inl ⟨by rfl, ?_⟩) hHeld ?_
    rotate_left
    · intro w hSw; obtain ⟨⟨s0, s1, s2⟩, s3, s4, s5⟩ := hSw; go_simp; try with_reducible rfl
    simp only [Act.put, List.getElem_toArray, List.getElem_cons_succ, List.getElem_cons_zero, List.setIfInBounds_toArray, List.set_cons_zero, List.set_cons_succ]

    refine wpAnyS_ready (rs := [1, 4, 5]) (by kernel_rfl) (by simp) (AllReadyS.cons false (by kernel_rfl) (o := _) rfl (fun K hK => ?_) (AllReadyS.cons false (by kernel_rfl) (o := _) rfl (fun K hK => ?_) (AllReadyS.cons false (by kernel_rfl) (o := _) rfl (fun K hK => ?_) AllReadyS.nil)))
    · skip
      go_simp
      with_reducible refine (cx _ hb).mono ?_
      rintro en Y0p ⟨ta, rfl, hpa, hfa, hst⟩
      (try unfold Tab.V)
      have hfa := hfa.base hb.size
      have hb := hb.trans (hst.mono hb.size)
      refine hK.out _ _ (HS.out _ hb) (fun hHeld => ?_)
      clear hK K hst
      try simp only [Act.put, List.getElem_toArray, List.getElem_cons_succ, List.getElem_cons_zero, List.setIfInBounds_toArray, List.set_cons_zero, List.set_cons_succ]

      refine wpAnyS_ready (rs := [3, 4, 5]) (by kernel_rfl) (by simp) (AllReadyS.cons false (by kernel_rfl) (o := _) rfl (fun K hK => ?_) (AllReadyS.cons false (by kernel_rfl) (o := _) rfl (fun K hK => ?_) (AllReadyS.cons false (by kernel_rfl) (o := _) rfl (fun K hK => ?_) AllReadyS.nil)))
      · skip
        go_simp
        with_reducible refine (cy _ hb).mono ?_
        rintro en Y0pq ⟨tb, rfl, hpb, hfb, hst⟩
        (try unfold Tab.V)
        have hfb := hfb.base hb.size
        have hfa := hfa.below hst
        have hb := hb.trans (hst.mono hb.size)
        refine hK.out _ _ (HS.out _ hb) (fun hHeld => ?_)
        clear hK K hst
        try simp only [Act.put, List.getElem_toArray, List.getElem_cons_succ, List.getElem_cons_zero, List.setIfInBounds_toArray, List.set_cons_zero, List.set_cons_succ]

        refine wpAnyS_ready (rs := [4, 5]) (by kernel_rfl) (by simp) (AllReadyS.cons false (by kernel_rfl) (o := _) rfl (fun K hK => ?_) (AllReadyS.cons false (by kernel_rfl) (o := _) rfl (fun K hK => ?_) AllReadyS.nil))
        · skip
          go_simp
          obtain ⟨Y0pqA, hnx⟩ : ∃ Y, Y = Y0pq.alloc (.cells #[.slice none 0 0, .slice none 0 0, .slice none 0 0] 25) := ⟨_, rfl⟩
          have hst : Below Y0pq.heap.size Y0pq Y0pqA := by rw [hnx]; exact (Below.refl _ _).alloc (Nat.le_refl _) _
          have hkA : Blk Y0pqA Y0pq.heap.size 25 #[.slice none 0 0, .slice none 0 0, .slice none 0 0] := by rw [hnx]; exact Blk.new Y0pq _ _
          have hlA : W2.heap.size ≤ Y0pq.heap.size := hb.size
          have hfa := hfa.below hst
          have hfb := hfb.below hst
          have hb := hb.trans (hst.mono hb.size)
          rw [← hnx]

          generalize Y0pq.heap.size = bA at *
          refine hK.out _ _ (HS.out _ hb) (fun hHeld => ?_)
          clear hK K hst hnx
          try simp only [Act.put, List.getElem_toArray, List.getElem_cons_succ, List.getElem_cons_zero, List.setIfInBounds_toArray, List.set_cons_zero, List.set_cons_succ]

          refine wpAnyS_ready (rs := [5]) (by kernel_rfl) (by simp) (AllReadyS.cons false (by kernel_rfl) (o := _) rfl (fun K hK => ?_) AllReadyS.nil)
          go_simp
          obtain ⟨Y0pqAB, hnx⟩ : ∃ Y, Y = Y0pqA.alloc (.cells #[.slice none 0 0, .slice none 0 0, .slice none 0 0] 25) := ⟨_, rfl⟩
          have hst : Below Y0pqA.heap.size Y0pqA Y0pqAB := by rw [hnx]; exact (Below.refl _ _).alloc (Nat.le_refl _) _
          have hkB : Blk Y0pqAB Y0pqA.heap.size 25 #[.slice none 0 0, .slice none 0 0, .slice none 0 0] := by rw [hnx]; exact Blk.new Y0pqA _ _
          have hlB : W2.heap.size ≤ Y0pqA.heap.size := hb.size
          have hfa := hfa.below hst
          have hfb := hfb.below hst
          have hkA0 := hkA
          have hkA := blk_below hkA hst
          have hb := hb.trans (hst.mono hb.size)
          rw [← hnx]
          have hAB : bA < Y0pqA.heap.size := hkA0.lt
          generalize Y0pqA.heap.size = bB at *
          refine hK.out _ _ (HS.out _ hb) (fun hHeld => ?_)
          clear hK K hst hnx
          try simp only [Act.put, List.getElem_toArray, List.getElem_cons_succ, List.getElem_cons_zero, List.setIfInBounds_toArray, List.set_cons_zero, List.set_cons_succ]

          generalize Y0pqAB = Y at *
          have hne : bA ≠ bB := by omega
          obtain ⟨⟨t0, t1, t2⟩, zf⟩ := blk_cells3 hkA
          have zf0 := zf 0
          have zf1 := zf 1
          have zf2 := zf 2
          clear zf
          refine wpAnyS_ready (rs := [6]) (by kernel_rfl) (by simp) (AllReadyS.cons false (by kernel_rfl) (o := _) rfl (fun K hK => ?_) AllReadyS.nil)
          go_simp
          obtain ⟨x6, hx6⟩ : ∃ x6, x6 = set3 Y bA (.slice ta.TA ta.Tn ta.Tc) (.slice ta.CA ta.Cn ta.Cc) (.slice ta.EA ta.En ta.Ec) := ⟨_, rfl⟩
          have j0 := set3_blk hkA (.slice ta.TA ta.Tn ta.Tc) (.slice ta.CA ta.Cn ta.Cc) (.slice ta.EA ta.En ta.Ec)
          have j1 := set3_far (g := bA) hkB (fun e => hne e.symm) (.slice ta.TA ta.Tn ta.Tc) (.slice ta.CA ta.Cn ta.Cc) (.slice ta.EA ta.En ta.Ec)
          have jk := set3_keep hkA (.slice ta.TA ta.Tn ta.Tc) (.slice ta.CA ta.Cn ta.Cc) (.slice ta.EA ta.En ta.Ec)
          have jb := hb.trans (set3_below (W := Y) (B := W2.heap.size) (g := bA) (by omega) (.slice ta.TA ta.Tn ta.Tc) (.slice ta.CA ta.Cn ta.Cc) (.slice ta.EA ta.En ta.Ec))
          rw [← hx6] at j0 j1 jk jb
          change K _ (set3 Y bA (.slice ta.TA ta.Tn ta.Tc) (.slice ta.CA ta.Cn ta.Cc) (.slice ta.EA ta.En ta.Ec))
          rw [← hx6]
          clear t0 t1 t2 zf0 zf1 zf2 hx6
          obtain ⟨⟨t0, t1, t2⟩, zf⟩ := blk_cells3 j1
          have zf0 := zf 0
          have zf1 := zf 1
          have zf2 := zf 2
          clear zf
          refine hK.out _ _ (HS.out _ jb) (fun hHeld => ?_)
          clear hK K
          try simp only [Act.put, List.getElem_toArray, List.getElem_cons_succ, List.getElem_cons_zero, List.setIfInBounds_toArray, List.set_cons_zero, List.set_cons_succ]
          refine wpAnyS_ready (rs := [7]) (by kernel_rfl) (by simp) (AllReadyS.cons true (by kernel_rfl) (o := _) rfl (fun K hK => ?_) AllReadyS.nil)
          go_simp
          obtain ⟨x7, hx7⟩ : ∃ x7, x7 = set3 x6 bB (.slice tb.TA tb.Tn tb.Tc) (.slice tb.CA tb.Cn tb.Cc) (.slice tb.EA tb.En tb.Ec) := ⟨_, rfl⟩
          have hres : OwnAB W2 (ownQ x.p) (ownQ y.p) (.pointer (some ⟨bA, 0, none⟩)) (.pointer (some ⟨bB, 0, none⟩)) x7 := by
            have ik := jk.trans (set3_keep j1 (.slice tb.TA tb.Tn tb.Tc) (.slice tb.CA tb.Cn tb.Cc) (.slice tb.EA tb.En tb.Ec))
            have ib := jb.trans (set3_below (W := x6) (B := W2.heap.size) (g := bB) (by omega) (.slice tb.TA tb.Tn tb.Tc) (.slice tb.CA tb.Cn tb.Cc) (.slice tb.EA tb.En tb.Ec))
            have i0 := set3_far (g := bB) j0 hne (.slice tb.TA tb.Tn tb.Tc) (.slice tb.CA tb.Cn tb.Cc) (.slice tb.EA tb.En tb.Ec)
            have i1 := set3_blk j1 (.slice tb.TA tb.Tn tb.Tc) (.slice tb.CA tb.Cn tb.Cc) (.slice tb.EA tb.En tb.Ec)
            rw [← hx7] at ik ib i0 i1
            exact ⟨bA, bB, ta, tb, rfl, rfl, hpa, hpb, i0, i1, hfa.keep ik, hfb.keep ik, ib⟩
          change K _ (set3 x6 bB (.slice tb.TA tb.Tn tb.Tc) (.slice tb.CA tb.Cn tb.Cc) (.slice tb.EA tb.En tb.Ec))
          rw [← hx7]
          have HRES := Lib.hid hres
          clear t0 t1 t2 zf0 zf1 zf2 hx7 hres
          refine hK.out _ _ trivial (fun hHeld => ?_)
          clear hK K
          try simp only [Act.put, List.getElem_toArray, List.getElem_cons_succ, List.getElem_cons_zero, List.setIfInBounds_toArray, List.set_cons_zero, List.set_cons_succ]
          refine wpAnyS_done (by kernel_rfl) ?_ _
          clear hHeld j0 j1 jk jb hfa hfb hkA hkB hpa hpb
          go_wp2_with fail
          go_meet
          case rel => exact HRES.out

        · skip
          go_simp
          obtain ⟨Y0pqB, hnx⟩ : ∃ Y, Y = Y0pq.alloc (.cells #[.slice none 0 0, .slice none 0 0, .slice none 0 0] 25) := ⟨_, rfl⟩
          have hst : Below Y0pq.heap.size Y0pq Y0pqB := by rw [hnx]; exact (Below.refl _ _).alloc (Nat.le_refl _) _
          have hkB : Blk Y0pqB Y0pq.heap.size 25 #[.slice none 0 0, .slice none 0 0, .slice none 0 0] := by rw [hnx]; exact Blk.new Y0pq _ _
          have hlB : W2.heap.size ≤ Y0pq.heap.size := hb.size
          have hfa := hfa.below hst
          have hfb := hfb.below hst
          have hb := hb.trans (hst.mono hb.size)
          rw [← hnx]

          generalize Y0pq.heap.size = bB at *
          refine hK.out _ _ (HS.out _ hb) (fun hHeld => ?_)
          clear hK K hst hnx
          try simp only [Act.put, List.getElem_toArray, List.getElem_cons_succ, List.getElem_cons_zero, List.setIfInBounds_toArray, List.set_cons_zero, List.set_cons_succ]

          refine wpAnyS_ready (rs := [4]) (by kernel_rfl) (by simp) (AllReadyS.cons false (by kernel_rfl) (o := _) rfl (fun K hK => ?_) AllReadyS.nil)
          go_simp
          obtain ⟨Y0pqBA, hnx⟩ : ∃ Y, Y = Y0pqB.alloc (.cells #[.slice none 0 0, .slice none 0 0, .slice none 0 0] 25) := ⟨_, rfl⟩
          have hst : Below Y0pqB.heap.size Y0pqB Y0pqBA := by rw [hnx]; exact (Below.refl _ _).alloc (Nat.le_refl _) _
          have hkA : Blk Y0pqBA Y0pqB.heap.size 25 #[.slice none 0 0, .slice none 0 0, .slice none 0 0] := by rw [hnx]; exact Blk.new Y0pqB _ _
          have hlA : W2.heap.size ≤ Y0pqB.heap.size := hb.size
          have hfa := hfa.below hst
          have hfb := hfb.below hst
          have hkB0 := hkB
          have hkB := blk_below hkB hst
          have hb := hb.trans (hst.mono hb.size)
          rw [← hnx]
          have hAB : bB < Y0pqB.heap.size := hkB0.lt
          generalize Y0pqB.heap.size = bA at *
          refine hK.out _ _ (HS.out _ hb) (fun hHeld => ?_)
          clear hK K hst hnx
          try simp only [Act.put, List.getElem_toArray, List.getElem_cons_succ, List.getElem_cons_zero, List.setIfInBounds_toArray, List.set_cons_zero, List.set_cons_succ]

          generalize Y0pqBA = Y at *
          have hne : bA ≠ bB := by omega
          obtain ⟨⟨t0, t1, t2⟩, zf⟩ := blk_cells3 hkA
          have zf0 := zf 0
          have zf1 := zf 1
          have zf2 := zf 2
          clear zf
          refine wpAnyS_ready (rs := [6]) (by kernel_rfl) (by simp) (AllReadyS.cons false (by kernel_rfl) (o := _) rfl (fun K hK => ?_) AllReadyS.nil)
          go_simp
          obtain ⟨x6, hx6⟩ : ∃ x6, x6 = set3 Y bA (.slice ta.TA ta.Tn ta.Tc) (.slice ta.CA ta.Cn ta.Cc) (.slice ta.EA ta.En ta.Ec) := ⟨_, rfl⟩
          have j0 := set3_blk hkA (.slice ta.TA ta.Tn ta.Tc) (.slice ta.CA ta.Cn ta.Cc) (.slice ta.EA ta.En ta.Ec)
          have j1 := set3_far (g := bA) hkB (fun e => hne e.symm) (.slice ta.TA ta.Tn ta.Tc) (.slice ta.CA ta.Cn ta.Cc) (.slice ta.EA ta.En ta.Ec)
          have jk := set3_keep hkA (.slice ta.TA ta.Tn ta.Tc) (.slice ta.CA ta.Cn ta.Cc) (.slice ta.EA ta.En ta.Ec)
          have jb := hb.trans (set3_below (W := Y) (B := W2.heap.size) (g := bA) (by omega) (.slice ta.TA ta.Tn ta.Tc) (.slice ta.CA ta.Cn ta.Cc) (.slice ta.EA ta.En ta.Ec))
          rw [← hx6] at j0 j1 jk jb
          change K _ (set3 Y bA (.slice ta.TA ta.Tn ta.Tc) (.slice ta.CA ta.Cn ta.Cc) (.slice ta.EA ta.En ta.Ec))
          rw [← hx6]
          clear t0 t1 t2 zf0 zf1 zf2 hx6
          obtain ⟨⟨t0, t1, t2⟩, zf⟩ := blk_cells3 j1
          have zf0 := zf 0
          have zf1 := zf 1
          have zf2 := zf 2
          clear zf
          refine hK.out _ _ (HS.out _ jb) (fun hHeld => ?_)
          clear hK K
          try simp only [Act.put, List.getElem_toArray, List.getElem_cons_succ, List.getElem_cons_zero, List.setIfInBounds_toArray, List.set_cons_zero, List.set_cons_succ]
          refine wpAnyS_ready (rs := [7]) (by kernel_rfl) (by simp) (AllReadyS.cons true (by kernel_rfl) (o := _) rfl (fun K hK => ?_) AllReadyS.nil)
          go_simp
          obtain ⟨x7, hx7⟩ : ∃ x7, x7 = set3 x6 bB (.slice tb.TA tb.Tn tb.Tc) (.slice tb.CA tb.Cn tb.Cc) (.slice tb.EA tb.En tb.Ec) := ⟨_, rfl⟩
          have hres : OwnAB W2 (ownQ x.p) (ownQ y.p) (.pointer (some ⟨bA, 0, none⟩)) (.pointer (some ⟨bB, 0, none⟩)) x7 := by
            have ik := jk.trans (set3_keep j1 (.slice tb.TA tb.Tn tb.Tc) (.slice tb.CA tb.Cn tb.Cc) (.slice tb.EA tb.En tb.Ec))
            have ib := jb.trans (set3_below (W := x6) (B := W2.heap.size) (g := bB) (by omega) (.slice tb.TA tb.Tn tb.Tc) (.slice tb.CA tb.Cn tb.Cc) (.slice tb.EA tb.En tb.Ec))
            have i0 := set3_far (g := bB) j0 hne (.slice tb.TA tb.Tn tb.Tc) (.slice tb.CA tb.Cn tb.Cc) (.slice tb.EA tb.En tb.Ec)
            have i1 := set3_blk j1 (.slice tb.TA tb.Tn tb.Tc) (.slice tb.CA tb.Cn tb.Cc) (.slice tb.EA tb.En tb.Ec)
            rw [← hx7] at ik ib i0 i1
            exact ⟨bA, bB, ta, tb, rfl, rfl, hpa, hpb, i0, i1, hfa.keep ik, hfb.keep ik, ib⟩
          change K _ (set3 x6 bB (.slice tb.TA tb.Tn tb.Tc) (.slice tb.CA tb.Cn tb.Cc) (.slice tb.EA tb.En tb.Ec))
          rw [← hx7]
          have HRES := Lib.hid hres
          clear t0 t1 t2 zf0 zf1 zf2 hx7 hres
          refine hK.out _ _ trivial (fun hHeld => ?_)
          clear hK K
          try simp only [Act.put, List.getElem_toArray, List.getElem_cons_succ, List.getElem_cons_zero, List.setIfInBounds_toArray, List.set_cons_zero, List.set_cons_succ]
          refine wpAnyS_done (by kernel_rfl) ?_ _
          clear hHeld j0 j1 jk jb hfa hfb hkA hkB hpa hpb
          go_wp2_with fail
          go_meet
          case rel => exact HRES.out

      · skip
        go_simp
        obtain ⟨Y0pA, hnx⟩ : ∃ Y, Y = Y0p.alloc (.cells #[.slice none 0 0, .slice none 0 0, .slice none 0 0] 25) := ⟨_, rfl⟩
        have hst : Below Y0p.heap.size Y0p Y0pA := by rw [hnx]; exact (Below.refl _ _).alloc (Nat.le_refl _) _
        have hkA : Blk Y0pA Y0p.heap.size 25 #[.slice none 0 0, .slice none 0 0, .slice none 0 0] := by rw [hnx]; exact Blk.new Y0p _ _
        have hlA : W2.heap.size ≤ Y0p.heap.size := hb.size
        have hfa := hfa.below hst
        have hb := hb.trans (hst.mono hb.size)
        rw [← hnx]

        generalize Y0p.heap.size = bA at *
        refine hK.out _ _ (HS.out _ hb) (fun hHeld => ?_)
        clear hK K hst hnx
        try simp only [Act.put, List.getElem_toArray, List.getElem_cons_succ, List.getElem_cons_zero, List.setIfInBounds_toArray, List.set_cons_zero, List.set_cons_succ]

        refine wpAnyS_ready (rs := [3, 5]) (by kernel_rfl) (by simp) (AllReadyS.cons false (by kernel_rfl) (o := _) rfl (fun K hK => ?_) (AllReadyS.cons false (by kernel_rfl) (o := _) rfl (fun K hK => ?_) AllReadyS.nil))
        · skip
          go_simp
          with_reducible refine (cy _ hb).mono ?_
          rintro en Y0pAq ⟨tb, rfl, hpb, hfb, hst⟩
          (try unfold Tab.V)
          have hfb := hfb.base hb.size
          have hfa := hfa.below hst
          have hkA := blk_below hkA hst
          have hb := hb.trans (hst.mono hb.size)
          refine hK.out _ _ (HS.out _ hb) (fun hHeld => ?_)
          clear hK K hst
          try simp only [Act.put, List.getElem_toArray, List.getElem_cons_succ, List.getElem_cons_zero, List.setIfInBounds_toArray, List.set_cons_zero, List.set_cons_succ]

          refine wpAnyS_ready (rs := [5]) (by kernel_rfl) (by simp) (AllReadyS.cons false (by kernel_rfl) (o := _) rfl (fun K hK => ?_) AllReadyS.nil)
          go_simp
          obtain ⟨Y0pAqB, hnx⟩ : ∃ Y, Y = Y0pAq.alloc (.cells #[.slice none 0 0, .slice none 0 0, .slice none 0 0] 25) := ⟨_, rfl⟩
          have hst : Below Y0pAq.heap.size Y0pAq Y0pAqB := by rw [hnx]; exact (Below.refl _ _).alloc (Nat.le_refl _) _
          have hkB : Blk Y0pAqB Y0pAq.heap.size 25 #[.slice none 0 0, .slice none 0 0, .slice none 0 0] := by rw [hnx]; exact Blk.new Y0pAq _ _
          have hlB : W2.heap.size ≤ Y0pAq.heap.size := hb.size
          have hfa := hfa.below hst
          have hfb := hfb.below hst
          have hkA0 := hkA
          have hkA := blk_below hkA hst
          have hb := hb.trans (hst.mono hb.size)
          rw [← hnx]
          have hAB : bA < Y0pAq.heap.size := hkA0.lt
          generalize Y0pAq.heap.size = bB at *
          refine hK.out _ _ (HS.out _ hb) (fun hHeld => ?_)
          clear hK K hst hnx
          try simp only [Act.put, List.getElem_toArray, List.getElem_cons_succ, List.getElem_cons_zero, List.setIfInBounds_toArray, List.set_cons_zero, List.set_cons_succ]

          generalize Y0pAqB = Y at *
          have hne : bA ≠ bB := by omega
          obtain ⟨⟨t0, t1, t2⟩, zf⟩ := blk_cells3 hkA
          have zf0 := zf 0
          have zf1 := zf 1
          have zf2 := zf 2
          clear zf
          refine wpAnyS_ready (rs := [6]) (by kernel_rfl) (by simp) (AllReadyS.cons false (by kernel_rfl) (o := _) rfl (fun K hK => ?_) AllReadyS.nil)
          go_simp
          obtain ⟨x6, hx6⟩ : ∃ x6, x6 = set3 Y bA (.slice ta.TA ta.Tn ta.Tc) (.slice ta.CA ta.Cn ta.Cc) (.slice ta.EA ta.En ta.Ec) := ⟨_, rfl⟩
          have j0 := set3_blk hkA (.slice ta.TA ta.Tn ta.Tc) (.slice ta.CA ta.Cn ta.Cc) (.slice ta.EA ta.En ta.Ec)
          have j1 := set3_far (g := bA) hkB (fun e => hne e.symm) (.slice ta.TA ta.Tn ta.Tc) (.slice ta.CA ta.Cn ta.Cc) (.slice ta.EA ta.En ta.Ec)
          have jk := set3_keep hkA (.slice ta.TA ta.Tn ta.Tc) (.slice ta.CA ta.Cn ta.Cc) (.slice ta.EA ta.En ta.Ec)
          have jb := hb.trans (set3_below (W := Y) (B := W2.heap.size) (g := bA) (by omega) (.slice ta.TA ta.Tn ta.Tc) (.slice ta.CA ta.Cn ta.Cc) (.slice ta.EA ta.En ta.Ec))
          rw [← hx6] at j0 j1 jk jb
          change K _ (set3 Y bA (.slice ta.TA ta.Tn ta.Tc) (.slice ta.CA ta.Cn ta.Cc) (.slice ta.EA ta.En ta.Ec))
          rw [← hx6]
          clear t0 t1 t2 zf0 zf1 zf2 hx6
          obtain ⟨⟨t0, t1, t2⟩, zf⟩ := blk_cells3 j1
          have zf0 := zf 0
          have zf1 := zf 1
          have zf2 := zf 2
          clear zf
          refine hK.out _ _ (HS.out _ jb) (fun hHeld => ?_)
          clear hK K
          try simp only [Act.put, List.getElem_toArray, List.getElem_cons_succ, List.getElem_cons_zero, List.setIfInBounds_toArray, List.set_cons_zero, List.set_cons_succ]
          refine wpAnyS_ready (rs := [7]) (by kernel_rfl) (by simp) (AllReadyS.cons true (by kernel_rfl) (o := _) rfl (fun K hK => ?_) AllReadyS.nil)
          go_simp
          obtain ⟨x7, hx7⟩ : ∃ x7, x7 = set3 x6 bB (.slice tb.TA tb.Tn tb.Tc) (.slice tb.CA tb.Cn tb.Cc) (.slice tb.EA tb.En tb.Ec) := ⟨_, rfl⟩
          have hres : OwnAB W2 (ownQ x.p) (ownQ y.p) (.pointer (some ⟨bA, 0, none⟩)) (.pointer (some ⟨bB, 0, none⟩)) x7 := by
            have ik := jk.trans (set3_keep j1 (.slice tb.TA tb.Tn tb.Tc) (.slice tb.CA tb.Cn tb.Cc) (.slice tb.EA tb.En tb.Ec))
            have ib := jb.trans (set3_below (W := x6) (B := W2.heap.size) (g := bB) (by omega) (.slice tb.TA tb.Tn tb.Tc) (.slice tb.CA tb.Cn tb.Cc) (.slice tb.EA tb.En tb.Ec))
            have i0 := set3_far (g := bB) j0 hne (.slice tb.TA tb.Tn tb.Tc) (.slice tb.CA tb.Cn tb.Cc) (.slice tb.EA tb.En tb.Ec)
            have i1 := set3_blk j1 (.slice tb.TA tb.Tn tb.Tc) (.slice tb.CA tb.Cn tb.Cc) (.slice tb.EA tb.En tb.Ec)
            rw [← hx7] at ik ib i0 i1
            exact ⟨bA, bB, ta, tb, rfl, rfl, hpa, hpb, i0, i1, hfa.keep ik, hfb.keep ik, ib⟩
          change K _ (set3 x6 bB (.slice tb.TA tb.Tn tb.Tc) (.slice tb.CA tb.Cn tb.Cc) (.slice tb.EA tb.En tb.Ec))
          rw [← hx7]
          have HRES := Lib.hid hres
          clear t0 t1 t2 zf0 zf1 zf2 hx7 hres
          refine hK.out _ _ trivial (fun hHeld => ?_)
          clear hK K
          try simp only [Act.put, List.getElem_toArray, List.getElem_cons_succ, List.getElem_cons_zero, List.setIfInBounds_toArray, List.set_cons_zero, List.set_cons_succ]
          refine wpAnyS_done (by kernel_rfl) ?_ _
          clear hHeld j0 j1 jk jb hfa hfb hkA hkB hpa hpb
          go_wp2_with fail
          go_meet
          case rel => exact HRES.out

        · skip
          go_simp
          obtain ⟨Y0pAB, hnx⟩ : ∃ Y, Y = Y0pA.alloc (.cells #[.slice none 0 0, .slice none 0 0, .slice none 0 0] 25) := ⟨_, rfl⟩
          have hst : Below Y0pA.heap.size Y0pA Y0pAB := by rw [hnx]; exact (Below.refl _ _).alloc (Nat.le_refl _) _
          have hkB : Blk Y0pAB Y0pA.heap.size 25 #[.slice none 0 0, .slice none 0 0, .slice none 0 0] := by rw [hnx]; exact Blk.new Y0pA _ _
          have hlB : W2.heap.size ≤ Y0pA.heap.size := hb.size
          have hfa := hfa.below hst
          have hkA0 := hkA
          have hkA := blk_below hkA hst
          have hb := hb.trans (hst.mono hb.size)
          rw [← hnx]
          have hAB : bA < Y0pA.heap.size := hkA0.lt
          generalize Y0pA.heap.size = bB at *
          refine hK.out _ _ (HS.out _ hb) (fun hHeld => ?_)
          clear hK K hst hnx
          try simp only [Act.put, List.getElem_toArray, List.getElem_cons_succ, List.getElem_cons_zero, List.setIfInBounds_toArray, List.set_cons_zero, List.set_cons_succ]

          refine wpAnyS_ready (rs := [3]) (by kernel_rfl) (by simp) (AllReadyS.cons false (by kernel_rfl) (o := _) rfl (fun K hK => ?_) AllReadyS.nil)
          go_simp
          with_reducible refine (cy _ hb).mono ?_
          rintro en Y0pABq ⟨tb, rfl, hpb, hfb, hst⟩
          (try unfold Tab.V)
          have hfb := hfb.base hb.size
          have hfa := hfa.below hst
          have hkA := blk_below hkA hst
          have hkB := blk_below hkB hst
          have hb := hb.trans (hst.mono hb.size)
          refine hK.out _ _ (HS.out _ hb) (fun hHeld => ?_)
          clear hK K hst
          try simp only [Act.put, List.getElem_toArray, List.getElem_cons_succ, List.getElem_cons_zero, List.setIfInBounds_toArray, List.set_cons_zero, List.set_cons_succ]

          generalize Y0pABq = Y at *
          have hne : bA ≠ bB := by omega
          obtain ⟨⟨t0, t1, t2⟩, zf⟩ := blk_cells3 hkA
          have zf0 := zf 0
          have zf1 := zf 1
          have zf2 := zf 2
          clear zf
          refine wpAnyS_ready (rs := [6]) (by kernel_rfl) (by simp) (AllReadyS.cons false (by kernel_rfl) (o := _) rfl (fun K hK => ?_) AllReadyS.nil)
          go_simp
          obtain ⟨x6, hx6⟩ : ∃ x6, x6 = set3 Y bA (.slice ta.TA ta.Tn ta.Tc) (.slice ta.CA ta.Cn ta.Cc) (.slice ta.EA ta.En ta.Ec) := ⟨_, rfl⟩
          have j0 := set3_blk hkA (.slice ta.TA ta.Tn ta.Tc) (.slice ta.CA ta.Cn ta.Cc) (.slice ta.EA ta.En ta.Ec)
          have j1 := set3_far (g := bA) hkB (fun e => hne e.symm) (.slice ta.TA ta.Tn ta.Tc) (.slice ta.CA ta.Cn ta.Cc) (.slice ta.EA ta.En ta.Ec)
          have jk := set3_keep hkA (.slice ta.TA ta.Tn ta.Tc) (.slice ta.CA ta.Cn ta.Cc) (.slice ta.EA ta.En ta.Ec)
          have jb := hb.trans (set3_below (W := Y) (B := W2.heap.size) (g := bA) (by omega) (.slice ta.TA ta.Tn ta.Tc) (.slice ta.CA ta.Cn ta.Cc) (.slice ta.EA ta.En ta.Ec))
          rw [← hx6] at j0 j1 jk jb
          change K _ (set3 Y bA (.slice ta.TA ta.Tn ta.Tc) (.slice ta.CA ta.Cn ta.Cc) (.slice ta.EA ta.En ta.Ec))
          rw [← hx6]
          clear t0 t1 t2 zf0 zf1 zf2 hx6
          obtain ⟨⟨t0, t1, t2⟩, zf⟩ := blk_cells3 j1
          have zf0 := zf 0
          have zf1 := zf 1
          have zf2 := zf 2
          clear zf
          refine hK.out _ _ (HS.out _ jb) (fun hHeld => ?_)
          clear hK K
          try simp only [Act.put, List.getElem_toArray, List.getElem_cons_succ, List.getElem_cons_zero, List.setIfInBounds_toArray, List.set_cons_zero, List.set_cons_succ]
          refine wpAnyS_ready (rs := [7]) (by kernel_rfl) (by simp) (AllReadyS.cons true (by kernel_rfl) (o := _) rfl (fun K hK => ?_) AllReadyS.nil)
          go_simp
          obtain ⟨x7, hx7⟩ : ∃ x7, x7 = set3 x6 bB (.slice tb.TA tb.Tn tb.Tc) (.slice tb.CA tb.Cn tb.Cc) (.slice tb.EA tb.En tb.Ec) := ⟨_, rfl⟩
          have hres : OwnAB W2 (ownQ x.p) (ownQ y.p) (.pointer (some ⟨bA, 0, none⟩)) (.pointer (some ⟨bB, 0, none⟩)) x7 := by
            have ik := jk.trans (set3_keep j1 (.slice tb.TA tb.Tn tb.Tc) (.slice tb.CA tb.Cn tb.Cc) (.slice tb.EA tb.En tb.Ec))
            have ib := jb.trans (set3_below (W := x6) (B := W2.heap.size) (g := bB) (by omega) (.slice tb.TA tb.Tn tb.Tc) (.slice tb.CA tb.Cn tb.Cc) (.slice tb.EA tb.En tb.Ec))
            have i0 := set3_far (g := bB) j0 hne (.slice tb.TA tb.Tn tb.Tc) (.slice tb.CA tb.Cn tb.Cc) (.slice tb.EA tb.En tb.Ec)
            have i1 := set3_blk j1 (.slice tb.TA tb.Tn tb.Tc) (.slice tb.CA tb.Cn tb.Cc) (.slice tb.EA tb.En tb.Ec)
            rw [← hx7] at ik ib i0 i1
            exact ⟨bA, bB, ta, tb, rfl, rfl, hpa, hpb, i0, i1, hfa.keep ik, hfb.keep ik, ib⟩
          change K _ (set3 x6 bB (.slice tb.TA tb.Tn tb.Tc) (.slice tb.CA tb.Cn tb.Cc) (.slice tb.EA tb.En tb.Ec))
          rw [← hx7]
          have HRES := Lib.hid hres
          clear t0 t1 t2 zf0 zf1 zf2 hx7 hres
          refine hK.out _ _ trivial (fun hHeld => ?_)
          clear hK K
          try simp only [Act.put, List.getElem_toArray, List.getElem_cons_succ, List.getElem_cons_zero, List.setIfInBounds_toArray, List.set_cons_zero, List.set_cons_succ]
          refine wpAnyS_done (by kernel_rfl) ?_ _
          clear hHeld j0 j1 jk jb hfa hfb hkA hkB hpa hpb
          go_wp2_with fail
          go_meet
          case rel => exact HRES.out

      · skip
        go_simp
        obtain ⟨Y0pB, hnx⟩ : ∃ Y, Y = Y0p.alloc (.cells #[.slice none 0 0, .slice none 0 0, .slice none 0 0] 25) := ⟨_, rfl⟩
        have hst : Below Y0p.heap.size Y0p Y0pB := by rw [hnx]; exact (Below.refl _ _).alloc (Nat.le_refl _) _
        have hkB : Blk Y0pB Y0p.heap.size 25 #[.slice none 0 0, .slice none 0 0, .slice none 0 0] := by rw [hnx]; exact Blk.new Y0p _ _
        have hlB : W2.heap.size ≤ Y0p.heap.size := hb.size
        have hfa := hfa.below hst
        have hb := hb.trans (hst.mono hb.size)
        rw [← hnx]

        generalize Y0p.heap.size = bB at *
        refine hK.out _ _ (HS.out _ hb) (fun hHeld => ?_)
        clear hK K hst hnx
        try simp only [Act.put, List.getElem_toArray, List.getElem_cons_succ, List.getElem_cons_zero, List.setIfInBounds_toArray, List.set_cons_zero, List.set_cons_succ]

        refine wpAnyS_ready (rs := [3, 4]) (by kernel_rfl) (by simp) (AllReadyS.cons false (by kernel_rfl) (o := _) rfl (fun K hK => ?_) (AllReadyS.cons false (by kernel_rfl) (o := _) rfl (fun K hK => ?_) AllReadyS.nil))
        · skip
          go_simp
          with_reducible refine (cy _ hb).mono ?_
          rintro en Y0pBq ⟨tb, rfl, hpb, hfb, hst⟩
          (try unfold Tab.V)
          have hfb := hfb.base hb.size
          have hfa := hfa.below hst
          have hkB := blk_below hkB hst
          have hb := hb.trans (hst.mono hb.size)
          refine hK.out _ _ (HS.out _ hb) (fun hHeld => ?_)
          clear hK K hst
          try simp only [Act.put, List.getElem_toArray, List.getElem_cons_succ, List.getElem_cons_zero, List.setIfInBounds_toArray, List.set_cons_zero, List.set_cons_succ]

          refine wpAnyS_ready (rs := [4]) (by kernel_rfl) (by simp) (AllReadyS.cons false (by kernel_rfl) (o := _) rfl (fun K hK => ?_) AllReadyS.nil)
          go_simp
          obtain ⟨Y0pBqA, hnx⟩ : ∃ Y, Y = Y0pBq.alloc (.cells #[.slice none 0 0, .slice none 0 0, .slice none 0 0] 25) := ⟨_, rfl⟩
          have hst : Below Y0pBq.heap.size Y0pBq Y0pBqA := by rw [hnx]; exact (Below.refl _ _).alloc (Nat.le_refl _) _
          have hkA : Blk Y0pBqA Y0pBq.heap.size 25 #[.slice none 0 0, .slice none 0 0, .slice none 0 0] := by rw [hnx]; exact Blk.new Y0pBq _ _
          have hlA : W2.heap.size ≤ Y0pBq.heap.size := hb.size
          have hfa := hfa.below hst
          have hfb := hfb.below hst
          have hkB0 := hkB
          have hkB := blk_below hkB hst
          have hb := hb.trans (hst.mono hb.size)
          rw [← hnx]
          have hAB : bB < Y0pBq.heap.size := hkB0.lt
          generalize Y0pBq.heap.size = bA at *
          refine hK.out _ _ (HS.out _ hb) (fun hHeld => ?_)
          clear hK K hst hnx
          try simp only [Act.put, List.getElem_toArray, List.getElem_cons_succ, List.getElem_cons_zero, List.setIfInBounds_toArray, List.set_cons_zero, List.set_cons_succ]

          generalize Y0pBqA = Y at *
          have hne : bA ≠ bB := by omega
          obtain ⟨⟨t0, t1, t2⟩, zf⟩ := blk_cells3 hkA
          have zf0 := zf 0
          have zf1 := zf 1
          have zf2 := zf 2
          clear zf
          refine wpAnyS_ready (rs := [6]) (by kernel_rfl) (by simp) (AllReadyS.cons false (by kernel_rfl) (o := _) rfl (fun K hK => ?_) AllReadyS.nil)
          go_simp
          obtain ⟨x6, hx6⟩ : ∃ x6, x6 = set3 Y bA (.slice ta.TA ta.Tn ta.Tc) (.slice ta.CA ta.Cn ta.Cc) (.slice ta.EA ta.En ta.Ec) := ⟨_, rfl⟩
          have j0 := set3_blk hkA (.slice ta.TA ta.Tn ta.Tc) (.slice ta.CA ta.Cn ta.Cc) (.slice ta.EA ta.En ta.Ec)
          have j1 := set3_far (g := bA) hkB (fun e => hne e.symm) (.slice ta.TA ta.Tn ta.Tc) (.slice ta.CA ta.Cn ta.Cc) (.slice ta.EA ta.En ta.Ec)
          have jk := set3_keep hkA (.slice ta.TA ta.Tn ta.Tc) (.slice ta.CA ta.Cn ta.Cc) (.slice ta.EA ta.En ta.Ec)
          have jb := hb.trans (set3_below (W := Y) (B := W2.heap.size) (g := bA) (by omega) (.slice ta.TA ta.Tn ta.Tc) (.slice ta.CA ta.Cn ta.Cc) (.slice ta.EA ta.En ta.Ec))
          rw [← hx6] at j0 j1 jk jb
          change K _ (set3 Y bA (.slice ta.TA ta.Tn ta.Tc) (.slice ta.CA ta.Cn ta.Cc) (.slice ta.EA ta.En ta.Ec))
          rw [← hx6]
          clear t0 t1 t2 zf0 zf1 zf2 hx6
          obtain ⟨⟨t0, t1, t2⟩, zf⟩ := blk_cells3 j1
          have zf0 := zf 0
          have zf1 := zf 1
          have zf2 := zf 2
          clear zf
          refine hK.out _ _ (HS.out _ jb) (fun hHeld => ?_)
          clear hK K
          try simp only [Act.put, List.getElem_toArray, List.getElem_cons_succ, List.getElem_cons_zero, List.setIfInBounds_toArray, List.set_cons_zero, List.set_cons_succ]
          refine wpAnyS_ready (rs := [7]) (by kernel_rfl) (by simp) (AllReadyS.cons true (by kernel_rfl) (o := _) rfl (fun K hK => ?_) AllReadyS.nil)
          go_simp
          obtain ⟨x7, hx7⟩ : ∃ x7, x7 = set3 x6 bB (.slice tb.TA tb.Tn tb.Tc) (.slice tb.CA tb.Cn tb.Cc) (.slice tb.EA tb.En tb.Ec) := ⟨_, rfl⟩
          have hres : OwnAB W2 (ownQ x.p) (ownQ y.p) (.pointer (some ⟨bA, 0, none⟩)) (.pointer (some ⟨bB, 0, none⟩)) x7 := by
            have ik := jk.trans (set3_keep j1 (.slice tb.TA tb.Tn tb.Tc) (.slice tb.CA tb.Cn tb.Cc) (.slice tb.EA tb.En tb.Ec))
            have ib := jb.trans (set3_below (W := x6) (B := W2.heap.size) (g := bB) (by omega) (.slice tb.TA tb.Tn tb.Tc) (.slice tb.CA tb.Cn tb.Cc) (.slice tb.EA tb.En tb.Ec))
            have i0 := set3_far (g := bB) j0 hne (.slice tb.TA tb.Tn tb.Tc) (.slice tb.CA tb.Cn tb.Cc) (.slice tb.EA tb.En tb.Ec)
            have i1 := set3_blk j1 (.slice tb.TA tb.Tn tb.Tc) (.slice tb.CA tb.Cn tb.Cc) (.slice tb.EA tb.En tb.Ec)
            rw [← hx7] at ik ib i0 i1
            exact ⟨bA, bB, ta, tb, rfl, rfl, hpa, hpb, i0, i1, hfa.keep ik, hfb.keep ik, ib⟩
          change K _ (set3 x6 bB (.slice tb.TA tb.Tn tb.Tc) (.slice tb.CA tb.Cn tb.Cc) (.slice tb.EA tb.En tb.Ec))
          rw [← hx7]
          have HRES := Lib.hid hres
          clear t0 t1 t2 zf0 zf1 zf2 hx7 hres
          refine hK.out _ _ trivial (fun hHeld => ?_)
          clear hK K
          try simp only [Act.put, List.getElem_toArray, List.getElem_cons_succ, List.getElem_cons_zero, List.setIfInBounds_toArray, List.set_cons_zero, List.set_cons_succ]
          refine wpAnyS_done (by kernel_rfl) ?_ _
          clear hHeld j0 j1 jk jb hfa hfb hkA hkB hpa hpb
          go_wp2_with fail
          go_meet
          case rel => exact HRES.out

        · skip
          go_simp
          obtain ⟨Y0pBA, hnx⟩ : ∃ Y, Y = Y0pB.alloc (.cells #[.slice none 0 0, .slice none 0 0, .slice none 0 0] 25) := ⟨_, rfl⟩
          have hst : Below Y0pB.heap.size Y0pB Y0pBA := by rw [hnx]; exact (Below.refl _ _).alloc (Nat.le_refl _) _
          have hkA : Blk Y0pBA Y0pB.heap.size 25 #[.slice none 0 0, .slice none 0 0, .slice none 0 0] := by rw [hnx]; exact Blk.new Y0pB _ _
          have hlA : W2.heap.size ≤ Y0pB.heap.size := hb.size
          have hfa := hfa.below hst
          have hkB0 := hkB
          have hkB := blk_below hkB hst
          have hb := hb.trans (hst.mono hb.size)
          rw [← hnx]
          have hAB : bB < Y0pB.heap.size := hkB0.lt
          generalize Y0pB.heap.size = bA at *
          refine hK.out _ _ (HS.out _ hb) (fun hHeld => ?_)
          clear hK K hst hnx
          try simp only [Act.put, List.getElem_toArray, List.getElem_cons_succ, List.getElem_cons_zero, List.setIfInBounds_toArray, List.set_cons_zero, List.set_cons_succ]

          refine wpAnyS_ready (rs := [3]) (by kernel_rfl) (by simp) (AllReadyS.cons false (by kernel_rfl) (o := _) rfl (fun K hK => ?_) AllReadyS.nil)
          go_simp
          with_reducible refine (cy _ hb).mono ?_
          rintro en Y0pBAq ⟨tb, rfl, hpb, hfb, hst⟩
          (try unfold Tab.V)
          have hfb := hfb.base hb.size
          have hfa := hfa.below hst
          have hkA := blk_below hkA hst
          have hkB := blk_below hkB hst
          have hb := hb.trans (hst.mono hb.size)
          refine hK.out _ _ (HS.out _ hb) (fun hHeld => ?_)
          clear hK K hst
          try simp only [Act.put, List.getElem_toArray, List.getElem_cons_succ, List.getElem_cons_zero, List.setIfInBounds_toArray, List.set_cons_zero, List.set_cons_succ]

          generalize Y0pBAq = Y at *
          have hne : bA ≠ bB := by omega
          obtain ⟨⟨t0, t1, t2⟩, zf⟩ := blk_cells3 hkA
          have zf0 := zf 0
          have zf1 := zf 1
          have zf2 := zf 2
          clear zf
          refine wpAnyS_ready (rs := [6]) (by kernel_rfl) (by simp) (AllReadyS.cons false (by kernel_rfl) (o := _) rfl (fun K hK => ?_) AllReadyS.nil)
          go_simp
          obtain ⟨x6, hx6⟩ : ∃ x6, x6 = set3 Y bA (.slice ta.TA ta.Tn ta.Tc) (.slice ta.CA ta.Cn ta.Cc) (.slice ta.EA ta.En ta.Ec) := ⟨_, rfl⟩
          have j0 := set3_blk hkA (.slice ta.TA ta.Tn ta.Tc) (.slice ta.CA ta.Cn ta.Cc) (.slice ta.EA ta.En ta.Ec)
          have j1 := set3_far (g := bA) hkB (fun e => hne e.symm) (.slice ta.TA ta.Tn ta.Tc) (.slice ta.CA ta.Cn ta.Cc) (.slice ta.EA ta.En ta.Ec)
          have jk := set3_keep hkA (.slice ta.TA ta.Tn ta.Tc) (.slice ta.CA ta.Cn ta.Cc) (.slice ta.EA ta.En ta.Ec)
          have jb := hb.trans (set3_below (W := Y) (B := W2.heap.size) (g := bA) (by omega) (.slice ta.TA ta.Tn ta.Tc) (.slice ta.CA ta.Cn ta.Cc) (.slice ta.EA ta.En ta.Ec))
          rw [← hx6] at j0 j1 jk jb
          change K _ (set3 Y bA (.slice ta.TA ta.Tn ta.Tc) (.slice ta.CA ta.Cn ta.Cc) (.slice ta.EA ta.En ta.Ec))
          rw [← hx6]
          clear t0 t1 t2 zf0 zf1 zf2 hx6
          obtain ⟨⟨t0, t1, t2⟩, zf⟩ := blk_cells3 j1
          have zf0 := zf 0
          have zf1 := zf 1
          have zf2 := zf 2
          clear zf
          refine hK.out _ _ (HS.out _ jb) (fun hHeld => ?_)
          clear hK K
          try simp only [Act.put, List.getElem_toArray, List.getElem_cons_succ, List.getElem_cons_zero, List.setIfInBounds_toArray, List.set_cons_zero, List.set_cons_succ]
          refine wpAnyS_ready (rs := [7]) (by kernel_rfl) (by simp) (AllReadyS.cons true (by kernel_rfl) (o := _) rfl (fun K hK => ?_) AllReadyS.nil)
          go_simp
          obtain ⟨x7, hx7⟩ : ∃ x7, x7 = set3 x6 bB (.slice tb.TA tb.Tn tb.Tc) (.slice tb.CA tb.Cn tb.Cc) (.slice tb.EA tb.En tb.Ec) := ⟨_, rfl⟩
          have hres : OwnAB W2 (ownQ x.p) (ownQ y.p) (.pointer (some ⟨bA, 0, none⟩)) (.pointer (some ⟨bB, 0, none⟩)) x7 := by
            have ik := jk.trans (set3_keep j1 (.slice tb.TA tb.Tn tb.Tc) (.slice tb.CA tb.Cn tb.Cc) (.slice tb.EA tb.En tb.Ec))
            have ib := jb.trans (set3_below (W := x6) (B := W2.heap.size) (g := bB) (by omega) (.slice tb.TA tb.Tn tb.Tc) (.slice tb.CA tb.Cn tb.Cc) (.slice tb.EA tb.En tb.Ec))
            have i0 := set3_far (g := bB) j0 hne (.slice tb.TA tb.Tn tb.Tc) (.slice tb.CA tb.Cn tb.Cc) (.slice tb.EA tb.En tb.Ec)
            have i1 := set3_blk j1 (.slice tb.TA tb.Tn tb.Tc) (.slice tb.CA tb.Cn tb.Cc) (.slice tb.EA tb.En tb.Ec)
            rw [← hx7] at ik ib i0 i1
            exact ⟨bA, bB, ta, tb, rfl, rfl, hpa, hpb, i0, i1, hfa.keep ik, hfb.keep ik, ib⟩
          change K _ (set3 x6 bB (.slice tb.TA tb.Tn tb.Tc) (.slice tb.CA tb.Cn tb.Cc) (.slice tb.EA tb.En tb.Ec))
          rw [← hx7]
          have HRES := Lib.hid hres
          clear t0 t1 t2 zf0 zf1 zf2 hx7 hres
          refine hK.out _ _ trivial (fun hHeld => ?_)
          clear hK K
          try simp only [Act.put, List.getElem_toArray, List.getElem_cons_succ, List.getElem_cons_zero, List.setIfInBounds_toArray, List.set_cons_zero, List.set_cons_succ]
          refine wpAnyS_done (by kernel_rfl) ?_ _
          clear hHeld j0 j1 jk jb hfa hfb hkA hkB hpa hpb
          go_wp2_with fail
          go_meet
          case rel => exact HRES.out

    · skip
      go_simp
      obtain ⟨Y0A, hnx⟩ : ∃ Y, Y = Y0.alloc (.cells #[.slice none 0 0, .slice none 0 0, .slice none 0 0] 25) := ⟨_, rfl⟩
      have hst : Below Y0.heap.size Y0 Y0A := by rw [hnx]; exact (Below.refl _ _).alloc (Nat.le_refl _) _
      have hkA : Blk Y0A Y0.heap.size 25 #[.slice none 0 0, .slice none 0 0, .slice none 0 0] := by rw [hnx]; exact Blk.new Y0 _ _
      have hlA : W2.heap.size ≤ Y0.heap.size := hb.size
      have hb := hb.trans (hst.mono hb.size)
      rw [← hnx]

      generalize Y0.heap.size = bA at *
      refine hK.out _ _ (HS.out _ hb) (fun hHeld => ?_)
      clear hK K hst hnx
      try simp only [Act.put, List.getElem_toArray, List.getElem_cons_succ, List.getElem_cons_zero, List.setIfInBounds_toArray, List.set_cons_zero, List.set_cons_succ]

      refine wpAnyS_ready (rs := [1, 5]) (by kernel_rfl) (by simp) (AllReadyS.cons false (by kernel_rfl) (o := _) rfl (fun K hK => ?_) (AllReadyS.cons false (by kernel_rfl) (o := _) rfl (fun K hK => ?_) AllReadyS.nil))
      · skip
        go_simp
        with_reducible refine (cx _ hb).mono ?_
        rintro en Y0Ap ⟨ta, rfl, hpa, hfa, hst⟩
        (try unfold Tab.V)
        have hfa := hfa.base hb.size
        have hkA := blk_below hkA hst
        have hb := hb.trans (hst.mono hb.size)
        refine hK.out _ _ (HS.out _ hb) (fun hHeld => ?_)
        clear hK K hst
        try simp only [Act.put, List.getElem_toArray, List.getElem_cons_succ, List.getElem_cons_zero, List.setIfInBounds_toArray, List.set_cons_zero, List.set_cons_succ]

        refine wpAnyS_ready (rs := [3, 5]) (by kernel_rfl) (by simp) (AllReadyS.cons false (by kernel_rfl) (o := _) rfl (fun K hK => ?_) (AllReadyS.cons false (by kernel_rfl) (o := _) rfl (fun K hK => ?_) AllReadyS.nil))
        · skip
          go_simp
          with_reducible refine (cy _ hb).mono ?_
          rintro en Y0Apq ⟨tb, rfl, hpb, hfb, hst⟩
          (try unfold Tab.V)
          have hfb := hfb.base hb.size
          have hfa := hfa.below hst
          have hkA := blk_below hkA hst
          have hb := hb.trans (hst.mono hb.size)
          refine hK.out _ _ (HS.out _ hb) (fun hHeld => ?_)
          clear hK K hst
          try simp only [Act.put, List.getElem_toArray, List.getElem_cons_succ, List.getElem_cons_zero, List.setIfInBounds_toArray, List.set_cons_zero, List.set_cons_succ]

          refine wpAnyS_ready (rs := [5]) (by kernel_rfl) (by simp) (AllReadyS.cons false (by kernel_rfl) (o := _) rfl (fun K hK => ?_) AllReadyS.nil)
          go_simp
          obtain ⟨Y0ApqB, hnx⟩ : ∃ Y, Y = Y0Apq.alloc (.cells #[.slice none 0 0, .slice none 0 0, .slice none 0 0] 25) := ⟨_, rfl⟩
          have hst : Below Y0Apq.heap.size Y0Apq Y0ApqB := by rw [hnx]; exact (Below.refl _ _).alloc (Nat.le_refl _) _
          have hkB : Blk Y0ApqB Y0Apq.heap.size 25 #[.slice none 0 0, .slice none 0 0, .slice none 0 0] := by rw [hnx]; exact Blk.new Y0Apq _ _
          have hlB : W2.heap.size ≤ Y0Apq.heap.size := hb.size
          have hfa := hfa.below hst
          have hfb := hfb.below hst
          have hkA0 := hkA
          have hkA := blk_below hkA hst
          have hb := hb.trans (hst.mono hb.size)
          rw [← hnx]
          have hAB : bA < Y0Apq.heap.size := hkA0.lt
          generalize Y0Apq.heap.size = bB at *
          refine hK.out _ _ (HS.out _ hb) (fun hHeld => ?_)
          clear hK K hst hnx
          try simp only [Act.put, List.getElem_toArray, List.getElem_cons_succ, List.getElem_cons_zero, List.setIfInBounds_toArray, List.set_cons_zero, List.set_cons_succ]

          generalize Y0ApqB = Y at *
          have hne : bA ≠ bB := by omega
          obtain ⟨⟨t0, t1, t2⟩, zf⟩ := blk_cells3 hkA
          have zf0 := zf 0
          have zf1 := zf 1
          have zf2 := zf 2
          clear zf
          refine wpAnyS_ready (rs := [6]) (by kernel_rfl) (by simp) (AllReadyS.cons false (by kernel_rfl) (o := _) rfl (fun K hK => ?_) AllReadyS.nil)
          go_simp
          obtain ⟨x6, hx6⟩ : ∃ x6, x6 = set3 Y bA (.slice ta.TA ta.Tn ta.Tc) (.slice ta.CA ta.Cn ta.Cc) (.slice ta.EA ta.En ta.Ec) := ⟨_, rfl⟩
          have j0 := set3_blk hkA (.slice ta.TA ta.Tn ta.Tc) (.slice ta.CA ta.Cn ta.Cc) (.slice ta.EA ta.En ta.Ec)
          have j1 := set3_far (g := bA) hkB (fun e => hne e.symm) (.slice ta.TA ta.Tn ta.Tc) (.slice ta.CA ta.Cn ta.Cc) (.slice ta.EA ta.En ta.Ec)
          have jk := set3_keep hkA (.slice ta.TA ta.Tn ta.Tc) (.slice ta.CA ta.Cn ta.Cc) (.slice ta.EA ta.En ta.Ec)
          have jb := hb.trans (set3_below (W := Y) (B := W2.heap.size) (g := bA) (by omega) (.slice ta.TA ta.Tn ta.Tc) (.slice ta.CA ta.Cn ta.Cc) (.slice ta.EA ta.En ta.Ec))
          rw [← hx6] at j0 j1 jk jb
          change K _ (set3 Y bA (.slice ta.TA ta.Tn ta.Tc) (.slice ta.CA ta.Cn ta.Cc) (.slice ta.EA ta.En ta.Ec))
          rw [← hx6]
          clear t0 t1 t2 zf0 zf1 zf2 hx6
          obtain ⟨⟨t0, t1, t2⟩, zf⟩ := blk_cells3 j1
          have zf0 := zf 0
          have zf1 := zf 1
          have zf2 := zf 2
          clear zf
          refine hK.out _ _ (HS.out _ jb) (fun hHeld => ?_)
          clear hK K
          try simp only [Act.put, List.getElem_toArray, List.getElem_cons_succ, List.getElem_cons_zero, List.setIfInBounds_toArray, List.set_cons_zero, List.set_cons_succ]
          refine wpAnyS_ready (rs := [7]) (by kernel_rfl) (by simp) (AllReadyS.cons true (by kernel_rfl) (o := _) rfl (fun K hK => ?_) AllReadyS.nil)
          go_simp
          obtain ⟨x7, hx7⟩ : ∃ x7, x7 = set3 x6 bB (.slice tb.TA tb.Tn tb.Tc) (.slice tb.CA tb.Cn tb.Cc) (.slice tb.EA tb.En tb.Ec) := ⟨_, rfl⟩
          have hres : OwnAB W2 (ownQ x.p) (ownQ y.p) (.pointer (some ⟨bA, 0, none⟩)) (.pointer (some ⟨bB, 0, none⟩)) x7 := by
            have ik := jk.trans (set3_keep j1 (.slice tb.TA tb.Tn tb.Tc) (.slice tb.CA tb.Cn tb.Cc) (.slice tb.EA tb.En tb.Ec))
            have ib := jb.trans (set3_below (W := x6) (B := W2.heap.size) (g := bB) (by omega) (.slice tb.TA tb.Tn tb.Tc) (.slice tb.CA tb.Cn tb.Cc) (.slice tb.EA tb.En tb.Ec))
            have i0 := set3_far (g := bB) j0 hne (.slice tb.TA tb.Tn tb.Tc) (.slice tb.CA tb.Cn tb.Cc) (.slice tb.EA tb.En tb.Ec)
            have i1 := set3_blk j1 (.slice tb.TA tb.Tn tb.Tc) (.slice tb.CA tb.Cn tb.Cc) (.slice tb.EA tb.En tb.Ec)
            rw [← hx7] at ik ib i0 i1
            exact ⟨bA, bB, ta, tb, rfl, rfl, hpa, hpb, i0, i1, hfa.keep ik, hfb.keep ik, ib⟩
          change K _ (set3 x6 bB (.slice tb.TA tb.Tn tb.Tc) (.slice tb.CA tb.Cn tb.Cc) (.slice tb.EA tb.En tb.Ec))
          rw [← hx7]
          have HRES := Lib.hid hres
          clear t0 t1 t2 zf0 zf1 zf2 hx7 hres
          refine hK.out _ _ trivial (fun hHeld => ?_)
          clear hK K
          try simp only [Act.put, List.getElem_toArray, List.getElem_cons_succ, List.getElem_cons_zero, List.setIfInBounds_toArray, List.set_cons_zero, List.set_cons_succ]
          refine wpAnyS_done (by kernel_rfl) ?_ _
          clear hHeld j0 j1 jk jb hfa hfb hkA hkB hpa hpb
          go_wp2_with fail
          go_meet
          case rel => exact HRES.out

        · skip
          go_simp
          obtain ⟨Y0ApB, hnx⟩ : ∃ Y, Y = Y0Ap.alloc (.cells #[.slice none 0 0, .slice none 0 0, .slice none 0 0] 25) := ⟨_, rfl⟩
          have hst : Below Y0Ap.heap.size Y0Ap Y0ApB := by rw [hnx]; exact (Below.refl _ _).alloc (Nat.le_refl _) _
          have hkB : Blk Y0ApB Y0Ap.heap.size 25 #[.slice none 0 0, .slice none 0 0, .slice none 0 0] := by rw [hnx]; exact Blk.new Y0Ap _ _
          have hlB : W2.heap.size ≤ Y0Ap.heap.size := hb.size
          have hfa := hfa.below hst
          have hkA0 := hkA
          have hkA := blk_below hkA hst
          have hb := hb.trans (hst.mono hb.size)
          rw [← hnx]
          have hAB : bA < Y0Ap.heap.size := hkA0.lt
          generalize Y0Ap.heap.size = bB at *
          refine hK.out _ _ (HS.out _ hb) (fun hHeld => ?_)
          clear hK K hst hnx
          try simp only [Act.put, List.getElem_toArray, List.getElem_cons_succ, List.getElem_cons_zero, List.setIfInBounds_toArray, List.set_cons_zero, List.set_cons_succ]

          refine wpAnyS_ready (rs := [3]) (by kernel_rfl) (by simp) (AllReadyS.cons false (by kernel_rfl) (o := _) rfl (fun K hK => ?_) AllReadyS.nil)
          go_simp
          with_reducible refine (cy _ hb).mono ?_
          rintro en Y0ApBq ⟨tb, rfl, hpb, hfb, hst⟩
          (try unfold Tab.V)
          have hfb := hfb.base hb.size
          have hfa := hfa.below hst
          have hkA := blk_below hkA hst
          have hkB := blk_below hkB hst
          have hb := hb.trans (hst.mono hb.size)
          refine hK.out _ _ (HS.out _ hb) (fun hHeld => ?_)
          clear hK K hst
          try simp only [Act.put, List.getElem_toArray, List.getElem_cons_succ, List.getElem_cons_zero, List.setIfInBounds_toArray, List.set_cons_zero, List.set_cons_succ]

          generalize Y0ApBq = Y at *
          have hne : bA ≠ bB := by omega
          obtain ⟨⟨t0, t1, t2⟩, zf⟩ := blk_cells3 hkA
          have zf0 := zf 0
          have zf1 := zf 1
          have zf2 := zf 2
          clear zf
          refine wpAnyS_ready (rs := [6]) (by kernel_rfl) (by simp) (AllReadyS.cons false (by kernel_rfl) (o := _) rfl (fun K hK => ?_) AllReadyS.nil)
          go_simp
          obtain ⟨x6, hx6⟩ : ∃ x6, x6 = set3 Y bA (.slice ta.TA ta.Tn ta.Tc) (.slice ta.CA ta.Cn ta.Cc) (.slice ta.EA ta.En ta.Ec) := ⟨_, rfl⟩
          have j0 := set3_blk hkA (.slice ta.TA ta.Tn ta.Tc) (.slice ta.CA ta.Cn ta.Cc) (.slice ta.EA ta.En ta.Ec)
          have j1 := set3_far (g := bA) hkB (fun e => hne e.symm) (.slice ta.TA ta.Tn ta.Tc) (.slice ta.CA ta.Cn ta.Cc) (.slice ta.EA ta.En ta.Ec)
          have jk := set3_keep hkA (.slice ta.TA ta.Tn ta.Tc) (.slice ta.CA ta.Cn ta.Cc) (.slice ta.EA ta.En ta.Ec)
          have jb := hb.trans (set3_below (W := Y) (B := W2.heap.size) (g := bA) (by omega) (.slice ta.TA ta.Tn ta.Tc) (.slice ta.CA ta.Cn ta.Cc) (.slice ta.EA ta.En ta.Ec))
          rw [← hx6] at j0 j1 jk jb
          change K _ (set3 Y bA (.slice ta.TA ta.Tn ta.Tc) (.slice ta.CA ta.Cn ta.Cc) (.slice ta.EA ta.En ta.Ec))
          rw [← hx6]
          clear t0 t1 t2 zf0 zf1 zf2 hx6
          obtain ⟨⟨t0, t1, t2⟩, zf⟩ := blk_cells3 j1
          have zf0 := zf 0
          have zf1 := zf 1
          have zf2 := zf 2
          clear zf
          refine hK.out _ _ (HS.out _ jb) (fun hHeld => ?_)
          clear hK K
          try simp only [Act.put, List.getElem_toArray, List.getElem_cons_succ, List.getElem_cons_zero, List.setIfInBounds_toArray, List.set_cons_zero, List.set_cons_succ]
          refine wpAnyS_ready (rs := [7]) (by kernel_rfl) (by simp) (AllReadyS.cons true (by kernel_rfl) (o := _) rfl (fun K hK => ?_) AllReadyS.nil)
          go_simp
          obtain ⟨x7, hx7⟩ : ∃ x7, x7 = set3 x6 bB (.slice tb.TA tb.Tn tb.Tc) (.slice tb.CA tb.Cn tb.Cc) (.slice tb.EA tb.En tb.Ec) := ⟨_, rfl⟩
          have hres : OwnAB W2 (ownQ x.p) (ownQ y.p) (.pointer (some ⟨bA, 0, none⟩)) (.pointer (some ⟨bB, 0, none⟩)) x7 := by
            have ik := jk.trans (set3_keep j1 (.slice tb.TA tb.Tn tb.Tc) (.slice tb.CA tb.Cn tb.Cc) (.slice tb.EA tb.En tb.Ec))
            have ib := jb.trans (set3_below (W := x6) (B := W2.heap.size) (g := bB) (by omega) (.slice tb.TA tb.Tn tb.Tc) (.slice tb.CA tb.Cn tb.Cc) (.slice tb.EA tb.En tb.Ec))
            have i0 := set3_far (g := bB) j0 hne (.slice tb.TA tb.Tn tb.Tc) (.slice tb.CA tb.Cn tb.Cc) (.slice tb.EA tb.En tb.Ec)
            have i1 := set3_blk j1 (.slice tb.TA tb.Tn tb.Tc) (.slice tb.CA tb.Cn tb.Cc) (.slice tb.EA tb.En tb.Ec)
            rw [← hx7] at ik ib i0 i1
            exact ⟨bA, bB, ta, tb, rfl, rfl, hpa, hpb, i0, i1, hfa.keep ik, hfb.keep ik, ib⟩
          change K _ (set3 x6 bB (.slice tb.TA tb.Tn tb.Tc) (.slice tb.CA tb.Cn tb.Cc) (.slice tb.EA tb.En tb.Ec))
          rw [← hx7]
          have HRES := Lib.hid hres
          clear t0 t1 t2 zf0 zf1 zf2 hx7 hres
          refine hK.out _ _ trivial (fun hHeld => ?_)
          clear hK K
          try simp only [Act.put, List.getElem_toArray, List.getElem_cons_succ, List.getElem_cons_zero, List.setIfInBounds_toArray, List.set_cons_zero, List.set_cons_succ]
          refine wpAnyS_done (by kernel_rfl) ?_ _
          clear hHeld j0 j1 jk jb hfa hfb hkA hkB hpa hpb
          go_wp2_with fail
          go_meet
          case rel => exact HRES.out

      · skip
        go_simp
        obtain ⟨Y0AB, hnx⟩ : ∃ Y, Y = Y0A.alloc (.cells #[.slice none 0 0, .slice none 0 0, .slice none 0 0] 25) := ⟨_, rfl⟩
        have hst : Below Y0A.heap.size Y0A Y0AB := by rw [hnx]; exact (Below.refl _ _).alloc (Nat.le_refl _) _
        have hkB : Blk Y0AB Y0A.heap.size 25 #[.slice none 0 0, .slice none 0 0, .slice none 0 0] := by rw [hnx]; exact Blk.new Y0A _ _
        have hlB : W2.heap.size ≤ Y0A.heap.size := hb.size
        have hkA0 := hkA
        have hkA := blk_below hkA hst
        have hb := hb.trans (hst.mono hb.size)
        rw [← hnx]
        have hAB : bA < Y0A.heap.size := hkA0.lt
        generalize Y0A.heap.size = bB at *
        refine hK.out _ _ (HS.out _ hb) (fun hHeld => ?_)
        clear hK K hst hnx
        try simp only [Act.put, List.getElem_toArray, List.getElem_cons_succ, List.getElem_cons_zero, List.setIfInBounds_toArray, List.set_cons_zero, List.set_cons_succ]

        refine wpAnyS_ready (rs := [1]) (by kernel_rfl) (by simp) (AllReadyS.cons false (by kernel_rfl) (o := _) rfl (fun K hK => ?_) AllReadyS.nil)
        go_simp
        with_reducible refine (cx _ hb).mono ?_
        rintro en Y0ABp ⟨ta, rfl, hpa, hfa, hst⟩
        (try unfold Tab.V)
        have hfa := hfa.base hb.size
        have hkA := blk_below hkA hst
        have hkB := blk_below hkB hst
        have hb := hb.trans (hst.mono hb.size)
        refine hK.out _ _ (HS.out _ hb) (fun hHeld => ?_)
        clear hK K hst
        try simp only [Act.put, List.getElem_toArray, List.getElem_cons_succ, List.getElem_cons_zero, List.setIfInBounds_toArray, List.set_cons_zero, List.set_cons_succ]

        refine wpAnyS_ready (rs := [3]) (by kernel_rfl) (by simp) (AllReadyS.cons false (by kernel_rfl) (o := _) rfl (fun K hK => ?_) AllReadyS.nil)
        go_simp
        with_reducible refine (cy _ hb).mono ?_
        rintro en Y0ABpq ⟨tb, rfl, hpb, hfb, hst⟩
        (try unfold Tab.V)
        have hfb := hfb.base hb.size
        have hfa := hfa.below hst
        have hkA := blk_below hkA hst
        have hkB := blk_below hkB hst
        have hb := hb.trans (hst.mono hb.size)
        refine hK.out _ _ (HS.out _ hb) (fun hHeld => ?_)
        clear hK K hst
        try simp only [Act.put, List.getElem_toArray, List.getElem_cons_succ, List.getElem_cons_zero, List.setIfInBounds_toArray, List.set_cons_zero, List.set_cons_succ]

        generalize Y0ABpq = Y at *
        have hne : bA ≠ bB := by omega
        obtain ⟨⟨t0, t1, t2⟩, zf⟩ := blk_cells3 hkA
        have zf0 := zf 0
        have zf1 := zf 1
        have zf2 := zf 2
        clear zf
        refine wpAnyS_ready (rs := [6]) (by kernel_rfl) (by simp) (AllReadyS.cons false (by kernel_rfl) (o := _) rfl (fun K hK => ?_) AllReadyS.nil)
        go_simp
        obtain ⟨x6, hx6⟩ : ∃ x6, x6 = set3 Y bA (.slice ta.TA ta.Tn ta.Tc) (.slice ta.CA ta.Cn ta.Cc) (.slice ta.EA ta.En ta.Ec) := ⟨_, rfl⟩
        have j0 := set3_blk hkA (.slice ta.TA ta.Tn ta.Tc) (.slice ta.CA ta.Cn ta.Cc) (.slice ta.EA ta.En ta.Ec)
        have j1 := set3_far (g := bA) hkB (fun e => hne e.symm) (.slice ta.TA ta.Tn ta.Tc) (.slice ta.CA ta.Cn ta.Cc) (.slice ta.EA ta.En ta.Ec)
        have jk := set3_keep hkA (.slice ta.TA ta.Tn ta.Tc) (.slice ta.CA ta.Cn ta.Cc) (.slice ta.EA ta.En ta.Ec)
        have jb := hb.trans (set3_below (W := Y) (B := W2.heap.size) (g := bA) (by omega) (.slice ta.TA ta.Tn ta.Tc) (.slice ta.CA ta.Cn ta.Cc) (.slice ta.EA ta.En ta.Ec))
        rw [← hx6] at j0 j1 jk jb
        change K _ (set3 Y bA (.slice ta.TA ta.Tn ta.Tc) (.slice ta.CA ta.Cn ta.Cc) (.slice ta.EA ta.En ta.Ec))
        rw [← hx6]
        clear t0 t1 t2 zf0 zf1 zf2 hx6
        obtain ⟨⟨t0, t1, t2⟩, zf⟩ := blk_cells3 j1
        have zf0 := zf 0
        have zf1 := zf 1
        have zf2 := zf 2
        clear zf
        refine hK.out _ _ (HS.out _ jb) (fun hHeld => ?_)
        clear hK K
        try simp only [Act.put, List.getElem_toArray, List.getElem_cons_succ, List.getElem_cons_zero, List.setIfInBounds_toArray, List.set_cons_zero, List.set_cons_succ]
        refine wpAnyS_ready (rs := [7]) (by kernel_rfl) (by simp) (AllReadyS.cons true (by kernel_rfl) (o := _) rfl (fun K hK => ?_) AllReadyS.nil)
        go_simp
        obtain ⟨x7, hx7⟩ : ∃ x7, x7 = set3 x6 bB (.slice tb.TA tb.Tn tb.Tc) (.slice tb.CA tb.Cn tb.Cc) (.slice tb.EA tb.En tb.Ec) := ⟨_, rfl⟩
        have hres : OwnAB W2 (ownQ x.p) (ownQ y.p) (.pointer (some ⟨bA, 0, none⟩)) (.pointer (some ⟨bB, 0, none⟩)) x7 := by
          have ik := jk.trans (set3_keep j1 (.slice tb.TA tb.Tn tb.Tc) (.slice tb.CA tb.Cn tb.Cc) (.slice tb.EA tb.En tb.Ec))
          have ib := jb.trans (set3_below (W := x6) (B := W2.heap.size) (g := bB) (by omega) (.slice tb.TA tb.Tn tb.Tc) (.slice tb.CA tb.Cn tb.Cc) (.slice tb.EA tb.En tb.Ec))
          have i0 := set3_far (g := bB) j0 hne (.slice tb.TA tb.Tn tb.Tc) (.slice tb.CA tb.Cn tb.Cc) (.slice tb.EA tb.En tb.Ec)
          have i1 := set3_blk j1 (.slice tb.TA tb.Tn tb.Tc) (.slice tb.CA tb.Cn tb.Cc) (.slice tb.EA tb.En tb.Ec)
          rw [← hx7] at ik ib i0 i1
          exact ⟨bA, bB, ta, tb, rfl, rfl, hpa, hpb, i0, i1, hfa.keep ik, hfb.keep ik, ib⟩
        change K _ (set3 x6 bB (.slice tb.TA tb.Tn tb.Tc) (.slice tb.CA tb.Cn tb.Cc) (.slice tb.EA tb.En tb.Ec))
        rw [← hx7]
        have HRES := Lib.hid hres
        clear t0 t1 t2 zf0 zf1 zf2 hx7 hres
        refine hK.out _ _ trivial (fun hHeld => ?_)
        clear hK K
        try simp only [Act.put, List.getElem_toArray, List.getElem_cons_succ, List.getElem_cons_zero, List.setIfInBounds_toArray, List.set_cons_zero, List.set_cons_succ]
        refine wpAnyS_done (by kernel_rfl) ?_ _
        clear hHeld j0 j1 jk jb hfa hfb hkA hkB hpa hpb
        go_wp2_with fail
        go_meet
        case rel => exact HRES.out

    · skip
      go_simp
      obtain ⟨Y0B, hnx⟩ : ∃ Y, Y = Y0.alloc (.cells #[.slice none 0 0, .slice none 0 0, .slice none 0 0] 25) := ⟨_, rfl⟩
      have hst : Below Y0.heap.size Y0 Y0B := by rw [hnx]; exact (Below.refl _ _).alloc (Nat.le_refl _) _
      have hkB : Blk Y0B Y0.heap.size 25 #[.slice none 0 0, .slice none 0 0, .slice none 0 0] := by rw [hnx]; exact Blk.new Y0 _ _
      have hlB : W2.heap.size ≤ Y0.heap.size := hb.size
      have hb := hb.trans (hst.mono hb.size)
      rw [← hnx]

      generalize Y0.heap.size = bB at *
      refine hK.out _ _ (HS.out _ hb) (fun hHeld => ?_)
      clear hK K hst hnx
      try simp only [Act.put, List.getElem_toArray, List.getElem_cons_succ, List.getElem_cons_zero, List.setIfInBounds_toArray, List.set_cons_zero, List.set_cons_succ]

      refine wpAnyS_ready (rs := [1, 4]) (by kernel_rfl) (by simp) (AllReadyS.cons false (by kernel_rfl) (o := _) rfl (fun K hK => ?_) (AllReadyS.cons false (by kernel_rfl) (o := _) rfl (fun K hK => ?_) AllReadyS.nil))
      · skip
        go_simp
        with_reducible refine (cx _ hb).mono ?_
        rintro en Y0Bp ⟨ta, rfl, hpa, hfa, hst⟩
        (try unfold Tab.V)
        have hfa := hfa.base hb.size
        have hkB := blk_below hkB hst
        have hb := hb.trans (hst.mono hb.size)
        refine hK.out _ _ (HS.out _ hb) (fun hHeld => ?_)
        clear hK K hst
        try simp only [Act.put, List.getElem_toArray, List.getElem_cons_succ, List.getElem_cons_zero, List.setIfInBounds_toArray, List.set_cons_zero, List.set_cons_succ]

        refine wpAnyS_ready (rs := [3, 4]) (by kernel_rfl) (by simp) (AllReadyS.cons false (by kernel_rfl) (o := _) rfl (fun K hK => ?_) (AllReadyS.cons false (by kernel_rfl) (o := _) rfl (fun K hK => ?_) AllReadyS.nil))
        · skip
          go_simp
          with_reducible refine (cy _ hb).mono ?_
          rintro en Y0Bpq ⟨tb, rfl, hpb, hfb, hst⟩
          (try unfold Tab.V)
          have hfb := hfb.base hb.size
          have hfa := hfa.below hst
          have hkB := blk_below hkB hst
          have hb := hb.trans (hst.mono hb.size)
          refine hK.out _ _ (HS.out _ hb) (fun hHeld => ?_)
          clear hK K hst
          try simp only [Act.put, List.getElem_toArray, List.getElem_cons_succ, List.getElem_cons_zero, List.setIfInBounds_toArray, List.set_cons_zero, List.set_cons_succ]

          refine wpAnyS_ready (rs := [4]) (by kernel_rfl) (by simp) (AllReadyS.cons false (by kernel_rfl) (o := _) rfl (fun K hK => ?_) AllReadyS.nil)
          go_simp
          obtain ⟨Y0BpqA, hnx⟩ : ∃ Y, Y = Y0Bpq.alloc (.cells #[.slice none 0 0, .slice none 0 0, .slice none 0 0] 25) := ⟨_, rfl⟩
          have hst : Below Y0Bpq.heap.size Y0Bpq Y0BpqA := by rw [hnx]; exact (Below.refl _ _).alloc (Nat.le_refl _) _
          have hkA : Blk Y0BpqA Y0Bpq.heap.size 25 #[.slice none 0 0, .slice none 0 0, .slice none 0 0] := by rw [hnx]; exact Blk.new Y0Bpq _ _
          have hlA : W2.heap.size ≤ Y0Bpq.heap.size := hb.size
          have hfa := hfa.below hst
          have hfb := hfb.below hst
          have hkB0 := hkB
          have hkB := blk_below hkB hst
          have hb := hb.trans (hst.mono hb.size)
          rw [← hnx]
          have hAB : bB < Y0Bpq.heap.size := hkB0.lt
          generalize Y0Bpq.heap.size = bA at *
          refine hK.out _ _ (HS.out _ hb) (fun hHeld => ?_)
          clear hK K hst hnx
          try simp only [Act.put, List.getElem_toArray, List.getElem_cons_succ, List.getElem_cons_zero, List.setIfInBounds_toArray, List.set_cons_zero, List.set_cons_succ]

          generalize Y0BpqA = Y at *
          have hne : bA ≠ bB := by omega
          obtain ⟨⟨t0, t1, t2⟩, zf⟩ := blk_cells3 hkA
          have zf0 := zf 0
          have zf1 := zf 1
          have zf2 := zf 2
          clear zf
          refine wpAnyS_ready (rs := [6]) (by kernel_rfl) (by simp) (AllReadyS.cons false (by kernel_rfl) (o := _) rfl (fun K hK => ?_) AllReadyS.nil)
          go_simp
          obtain ⟨x6, hx6⟩ : ∃ x6, x6 = set3 Y bA (.slice ta.TA ta.Tn ta.Tc) (.slice ta.CA ta.Cn ta.Cc) (.slice ta.EA ta.En ta.Ec) := ⟨_, rfl⟩
          have j0 := set3_blk hkA (.slice ta.TA ta.Tn ta.Tc) (.slice ta.CA ta.Cn ta.Cc) (.slice ta.EA ta.En ta.Ec)
          have j1 := set3_far (g := bA) hkB (fun e => hne e.symm) (.slice ta.TA ta.Tn ta.Tc) (.slice ta.CA ta.Cn ta.Cc) (.slice ta.EA ta.En ta.Ec)
          have jk := set3_keep hkA (.slice ta.TA ta.Tn ta.Tc) (.slice ta.CA ta.Cn ta.Cc) (.slice ta.EA ta.En ta.Ec)
          have jb := hb.trans (set3_below (W := Y) (B := W2.heap.size) (g := bA) (by omega) (.slice ta.TA ta.Tn ta.Tc) (.slice ta.CA ta.Cn ta.Cc) (.slice ta.EA ta.En ta.Ec))
          rw [← hx6] at j0 j1 jk jb
          change K _ (set3 Y bA (.slice ta.TA ta.Tn ta.Tc) (.slice ta.CA ta.Cn ta.Cc) (.slice ta.EA ta.En ta.Ec))
          rw [← hx6]
          clear t0 t1 t2 zf0 zf1 zf2 hx6
          obtain ⟨⟨t0, t1, t2⟩, zf⟩ := blk_cells3 j1
          have zf0 := zf 0
          have zf1 := zf 1
          have zf2 := zf 2
          clear zf
          refine hK.out _ _ (HS.out _ jb) (fun hHeld => ?_)
          clear hK K
          try simp only [Act.put, List.getElem_toArray, List.getElem_cons_succ, List.getElem_cons_zero, List.setIfInBounds_toArray, List.set_cons_zero, List.set_cons_succ]
          refine wpAnyS_ready (rs := [7]) (by kernel_rfl) (by simp) (AllReadyS.cons true (by kernel_rfl) (o := _) rfl (fun K hK => ?_) AllReadyS.nil)
          go_simp
          obtain ⟨x7, hx7⟩ : ∃ x7, x7 = set3 x6 bB (.slice tb.TA tb.Tn tb.Tc) (.slice tb.CA tb.Cn tb.Cc) (.slice tb.EA tb.En tb.Ec) := ⟨_, rfl⟩
          have hres : OwnAB W2 (ownQ x.p) (ownQ y.p) (.pointer (some ⟨bA, 0, none⟩)) (.pointer (some ⟨bB, 0, none⟩)) x7 := by
            have ik := jk.trans (set3_keep j1 (.slice tb.TA tb.Tn tb.Tc) (.slice tb.CA tb.Cn tb.Cc) (.slice tb.EA tb.En tb.Ec))
            have ib := jb.trans (set3_below (W := x6) (B := W2.heap.size) (g := bB) (by omega) (.slice tb.TA tb.Tn tb.Tc) (.slice tb.CA tb.Cn tb.Cc) (.slice tb.EA tb.En tb.Ec))
            have i0 := set3_far (g := bB) j0 hne (.slice tb.TA tb.Tn tb.Tc) (.slice tb.CA tb.Cn tb.Cc) (.slice tb.EA tb.En tb.Ec)
            have i1 := set3_blk j1 (.slice tb.TA tb.Tn tb.Tc) (.slice tb.CA tb.Cn tb.Cc) (.slice tb.EA tb.En tb.Ec)
            rw [← hx7] at ik ib i0 i1
            exact ⟨bA, bB, ta, tb, rfl, rfl, hpa, hpb, i0, i1, hfa.keep ik, hfb.keep ik, ib⟩
          change K _ (set3 x6 bB (.slice tb.TA tb.Tn tb.Tc) (.slice tb.CA tb.Cn tb.Cc) (.slice tb.EA tb.En tb.Ec))
          rw [← hx7]
          have HRES := Lib.hid hres
          clear t0 t1 t2 zf0 zf1 zf2 hx7 hres
          refine hK.out _ _ trivial (fun hHeld => ?_)
          clear hK K
          try simp only [Act.put, List.getElem_toArray, List.getElem_cons_succ, List.getElem_cons_zero, List.setIfInBounds_toArray, List.set_cons_zero, List.set_cons_succ]
          refine wpAnyS_done (by kernel_rfl) ?_ _
          clear hHeld j0 j1 jk jb hfa hfb hkA hkB hpa hpb
          go_wp2_with fail
          go_meet
          case rel => exact HRES.out

        · skip
          go_simp
          obtain ⟨Y0BpA, hnx⟩ : ∃ Y, Y = Y0Bp.alloc (.cells #[.slice none 0 0, .slice none 0 0, .slice none 0 0] 25) := ⟨_, rfl⟩
          have hst : Below Y0Bp.heap.size Y0Bp Y0BpA := by rw [hnx]; exact (Below.refl _ _).alloc (Nat.le_refl _) _
          have hkA : Blk Y0BpA Y0Bp.heap.size 25 #[.slice none 0 0, .slice none 0 0, .slice none 0 0] := by rw [hnx]; exact Blk.new Y0Bp _ _
          have hlA : W2.heap.size ≤ Y0Bp.heap.size := hb.size
          have hfa := hfa.below hst
          have hkB0 := hkB
          have hkB := blk_below hkB hst
          have hb := hb.trans (hst.mono hb.size)
          rw [← hnx]
          have hAB : bB < Y0Bp.heap.size := hkB0.lt
          generalize Y0Bp.heap.size = bA at *
          refine hK.out _ _ (HS.out _ hb) (fun hHeld => ?_)
          clear hK K hst hnx
          try simp only [Act.put, List.getElem_toArray, List.getElem_cons_succ, List.getElem_cons_zero, List.setIfInBounds_toArray, List.set_cons_zero, List.set_cons_succ]

          refine wpAnyS_ready (rs := [3]) (by kernel_rfl) (by simp) (AllReadyS.cons false (by kernel_rfl) (o := _) rfl (fun K hK => ?_) AllReadyS.nil)
          go_simp
          with_reducible refine (cy _ hb).mono ?_
          rintro en Y0BpAq ⟨tb, rfl, hpb, hfb, hst⟩
          (try unfold Tab.V)
          have hfb := hfb.base hb.size
          have hfa := hfa.below hst
          have hkA := blk_below hkA hst
          have hkB := blk_below hkB hst
          have hb := hb.trans (hst.mono hb.size)
          refine hK.out _ _ (HS.out _ hb) (fun hHeld => ?_)
          clear hK K hst
          try simp only [Act.put, List.getElem_toArray, List.getElem_cons_succ, List.getElem_cons_zero, List.setIfInBounds_toArray, List.set_cons_zero, List.set_cons_succ]

          generalize Y0BpAq = Y at *
          have hne : bA ≠ bB := by omega
          obtain ⟨⟨t0, t1, t2⟩, zf⟩ := blk_cells3 hkA
          have zf0 := zf 0
          have zf1 := zf 1
          have zf2 := zf 2
          clear zf
          refine wpAnyS_ready (rs := [6]) (by kernel_rfl) (by simp) (AllReadyS.cons false (by kernel_rfl) (o := _) rfl (fun K hK => ?_) AllReadyS.nil)
          go_simp
          obtain ⟨x6, hx6⟩ : ∃ x6, x6 = set3 Y bA (.slice ta.TA ta.Tn ta.Tc) (.slice ta.CA ta.Cn ta.Cc) (.slice ta.EA ta.En ta.Ec) := ⟨_, rfl⟩
          have j0 := set3_blk hkA (.slice ta.TA ta.Tn ta.Tc) (.slice ta.CA ta.Cn ta.Cc) (.slice ta.EA ta.En ta.Ec)
          have j1 := set3_far (g := bA) hkB (fun e => hne e.symm) (.slice ta.TA ta.Tn ta.Tc) (.slice ta.CA ta.Cn ta.Cc) (.slice ta.EA ta.En ta.Ec)
          have jk := set3_keep hkA (.slice ta.TA ta.Tn ta.Tc) (.slice ta.CA ta.Cn ta.Cc) (.slice ta.EA ta.En ta.Ec)
          have jb := hb.trans (set3_below (W := Y) (B := W2.heap.size) (g := bA) (by omega) (.slice ta.TA ta.Tn ta.Tc) (.slice ta.CA ta.Cn ta.Cc) (.slice ta.EA ta.En ta.Ec))
          rw [← hx6] at j0 j1 jk jb
          change K _ (set3 Y bA (.slice ta.TA ta.Tn ta.Tc) (.slice ta.CA ta.Cn ta.Cc) (.slice ta.EA ta.En ta.Ec))
          rw [← hx6]
          clear t0 t1 t2 zf0 zf1 zf2 hx6
          obtain ⟨⟨t0, t1, t2⟩, zf⟩ := blk_cells3 j1
          have zf0 := zf 0
          have zf1 := zf 1
          have zf2 := zf 2
          clear zf
          refine hK.out _ _ (HS.out _ jb) (fun hHeld => ?_)
          clear hK K
          try simp only [Act.put, List.getElem_toArray, List.getElem_cons_succ, List.getElem_cons_zero, List.setIfInBounds_toArray, List.set_cons_zero, List.set_cons_succ]
          refine wpAnyS_ready (rs := [7]) (by kernel_rfl) (by simp) (AllReadyS.cons true (by kernel_rfl) (o := _) rfl (fun K hK => ?_) AllReadyS.nil)
          go_simp
          obtain ⟨x7, hx7⟩ : ∃ x7, x7 = set3 x6 bB (.slice tb.TA tb.Tn tb.Tc) (.slice tb.CA tb.Cn tb.Cc) (.slice tb.EA tb.En tb.Ec) := ⟨_, rfl⟩
          have hres : OwnAB W2 (ownQ x.p) (ownQ y.p) (.pointer (some ⟨bA, 0, none⟩)) (.pointer (some ⟨bB, 0, none⟩)) x7 := by
            have ik := jk.trans (set3_keep j1 (.slice tb.TA tb.Tn tb.Tc) (.slice tb.CA tb.Cn tb.Cc) (.slice tb.EA tb.En tb.Ec))
            have ib := jb.trans (set3_below (W := x6) (B := W2.heap.size) (g := bB) (by omega) (.slice tb.TA tb.Tn tb.Tc) (.slice tb.CA tb.Cn tb.Cc) (.slice tb.EA tb.En tb.Ec))
            have i0 := set3_far (g := bB) j0 hne (.slice tb.TA tb.Tn tb.Tc) (.slice tb.CA tb.Cn tb.Cc) (.slice tb.EA tb.En tb.Ec)
            have i1 := set3_blk j1 (.slice tb.TA tb.Tn tb.Tc) (.slice tb.CA tb.Cn tb.Cc) (.slice tb.EA tb.En tb.Ec)
            rw [← hx7] at ik ib i0 i1
            exact ⟨bA, bB, ta, tb, rfl, rfl, hpa, hpb, i0, i1, hfa.keep ik, hfb.keep ik, ib⟩
          change K _ (set3 x6 bB (.slice tb.TA tb.Tn tb.Tc) (.slice tb.CA tb.Cn tb.Cc) (.slice tb.EA tb.En tb.Ec))
          rw [← hx7]
          have HRES := Lib.hid hres
          clear t0 t1 t2 zf0 zf1 zf2 hx7 hres
          refine hK.out _ _ trivial (fun hHeld => ?_)
          clear hK K
          try simp only [Act.put, List.getElem_toArray, List.getElem_cons_succ, List.getElem_cons_zero, List.setIfInBounds_toArray, List.set_cons_zero, List.set_cons_succ]
          refine wpAnyS_done (by kernel_rfl) ?_ _
          clear hHeld j0 j1 jk jb hfa hfb hkA hkB hpa hpb
          go_wp2_with fail
          go_meet
          case rel => exact HRES.out

      · skip
        go_simp
        obtain ⟨Y0BA, hnx⟩ : ∃ Y, Y = Y0B.alloc (.cells #[.slice none 0 0, .slice none 0 0, .slice none 0 0] 25) := ⟨_, rfl⟩
        have hst : Below Y0B.heap.size Y0B Y0BA := by rw [hnx]; exact (Below.refl _ _).alloc (Nat.le_refl _) _
        have hkA : Blk Y0BA Y0B.heap.size 25 #[.slice none 0 0, .slice none 0 0, .slice none 0 0] := by rw [hnx]; exact Blk.new Y0B _ _
        have hlA : W2.heap.size ≤ Y0B.heap.size := hb.size
        have hkB0 := hkB
        have hkB := blk_below hkB hst
        have hb := hb.trans (hst.mono hb.size)
        rw [← hnx]
        have hAB : bB < Y0B.heap.size := hkB0.lt
        generalize Y0B.heap.size = bA at *
        refine hK.out _ _ (HS.out _ hb) (fun hHeld => ?_)
        clear hK K hst hnx
        try simp only [Act.put, List.getElem_toArray, List.getElem_cons_succ, List.getElem_cons_zero, List.setIfInBounds_toArray, List.set_cons_zero, List.set_cons_succ]

        refine wpAnyS_ready (rs := [1]) (by kernel_rfl) (by simp) (AllReadyS.cons false (by kernel_rfl) (o := _) rfl (fun K hK => ?_) AllReadyS.nil)
        go_simp
        with_reducible refine (cx _ hb).mono ?_
        rintro en Y0BAp ⟨ta, rfl, hpa, hfa, hst⟩
        (try unfold Tab.V)
        have hfa := hfa.base hb.size
        have hkA := blk_below hkA hst
        have hkB := blk_below hkB hst
        have hb := hb.trans (hst.mono hb.size)
        refine hK.out _ _ (HS.out _ hb) (fun hHeld => ?_)
        clear hK K hst
        try simp only [Act.put, List.getElem_toArray, List.getElem_cons_succ, List.getElem_cons_zero, List.setIfInBounds_toArray, List.set_cons_zero, List.set_cons_succ]

        refine wpAnyS_ready (rs := [3]) (by kernel_rfl) (by simp) (AllReadyS.cons false (by kernel_rfl) (o := _) rfl (fun K hK => ?_) AllReadyS.nil)
        go_simp
        with_reducible refine (cy _ hb).mono ?_
        rintro en Y0BApq ⟨tb, rfl, hpb, hfb, hst⟩
        (try unfold Tab.V)
        have hfb := hfb.base hb.size
        have hfa := hfa.below hst
        have hkA := blk_below hkA hst
        have hkB := blk_below hkB hst
        have hb := hb.trans (hst.mono hb.size)
        refine hK.out _ _ (HS.out _ hb) (fun hHeld => ?_)
        clear hK K hst
        try simp only [Act.put, List.getElem_toArray, List.getElem_cons_succ, List.getElem_cons_zero, List.setIfInBounds_toArray, List.set_cons_zero, List.set_cons_succ]

        generalize Y0BApq = Y at *
        have hne : bA ≠ bB := by omega
        obtain ⟨⟨t0, t1, t2⟩, zf⟩ := blk_cells3 hkA
        have zf0 := zf 0
        have zf1 := zf 1
        have zf2 := zf 2
        clear zf
        refine wpAnyS_ready (rs := [6]) (by kernel_rfl) (by simp) (AllReadyS.cons false (by kernel_rfl) (o := _) rfl (fun K hK => ?_) AllReadyS.nil)
        go_simp
        obtain ⟨x6, hx6⟩ : ∃ x6, x6 = set3 Y bA (.slice ta.TA ta.Tn ta.Tc) (.slice ta.CA ta.Cn ta.Cc) (.slice ta.EA ta.En ta.Ec) := ⟨_, rfl⟩
        have j0 := set3_blk hkA (.slice ta.TA ta.Tn ta.Tc) (.slice ta.CA ta.Cn ta.Cc) (.slice ta.EA ta.En ta.Ec)
        have j1 := set3_far (g := bA) hkB (fun e => hne e.symm) (.slice ta.TA ta.Tn ta.Tc) (.slice ta.CA ta.Cn ta.Cc) (.slice ta.EA ta.En ta.Ec)
        have jk := set3_keep hkA (.slice ta.TA ta.Tn ta.Tc) (.slice ta.CA ta.Cn ta.Cc) (.slice ta.EA ta.En ta.Ec)
        have jb := hb.trans (set3_below (W := Y) (B := W2.heap.size) (g := bA) (by omega) (.slice ta.TA ta.Tn ta.Tc) (.slice ta.CA ta.Cn ta.Cc) (.slice ta.EA ta.En ta.Ec))
        rw [← hx6] at j0 j1 jk jb
        change K _ (set3 Y bA (.slice ta.TA ta.Tn ta.Tc) (.slice ta.CA ta.Cn ta.Cc) (.slice ta.EA ta.En ta.Ec))
        rw [← hx6]
        clear t0 t1 t2 zf0 zf1 zf2 hx6
        obtain ⟨⟨t0, t1, t2⟩, zf⟩ := blk_cells3 j1
        have zf0 := zf 0
        have zf1 := zf 1
        have zf2 := zf 2
        clear zf
        refine hK.out _ _ (HS.out _ jb) (fun hHeld => ?_)
        clear hK K
        try simp only [Act.put, List.getElem_toArray, List.getElem_cons_succ, List.getElem_cons_zero, List.setIfInBounds_toArray, List.set_cons_zero, List.set_cons_succ]
        refine wpAnyS_ready (rs := [7]) (by kernel_rfl) (by simp) (AllReadyS.cons true (by kernel_rfl) (o := _) rfl (fun K hK => ?_) AllReadyS.nil)
        go_simp
        obtain ⟨x7, hx7⟩ : ∃ x7, x7 = set3 x6 bB (.slice tb.TA tb.Tn tb.Tc) (.slice tb.CA tb.Cn tb.Cc) (.slice tb.EA tb.En tb.Ec) := ⟨_, rfl⟩
        have hres : OwnAB W2 (ownQ x.p) (ownQ y.p) (.pointer (some ⟨bA, 0, none⟩)) (.pointer (some ⟨bB, 0, none⟩)) x7 := by
          have ik := jk.trans (set3_keep j1 (.slice tb.TA tb.Tn tb.Tc) (.slice tb.CA tb.Cn tb.Cc) (.slice tb.EA tb.En tb.Ec))
          have ib := jb.trans (set3_below (W := x6) (B := W2.heap.size) (g := bB) (by omega) (.slice tb.TA tb.Tn tb.Tc) (.slice tb.CA tb.Cn tb.Cc) (.slice tb.EA tb.En tb.Ec))
          have i0 := set3_far (g := bB) j0 hne (.slice tb.TA tb.Tn tb.Tc) (.slice tb.CA tb.Cn tb.Cc) (.slice tb.EA tb.En tb.Ec)
          have i1 := set3_blk j1 (.slice tb.TA tb.Tn tb.Tc) (.slice tb.CA tb.Cn tb.Cc) (.slice tb.EA tb.En tb.Ec)
          rw [← hx7] at ik ib i0 i1
          exact ⟨bA, bB, ta, tb, rfl, rfl, hpa, hpb, i0, i1, hfa.keep ik, hfb.keep ik, ib⟩
        change K _ (set3 x6 bB (.slice tb.TA tb.Tn tb.Tc) (.slice tb.CA tb.Cn tb.Cc) (.slice tb.EA tb.En tb.Ec))
        rw [← hx7]
        have HRES := Lib.hid hres
        clear t0 t1 t2 zf0 zf1 zf2 hx7 hres
        refine hK.out _ _ trivial (fun hHeld => ?_)
        clear hK K
        try simp only [Act.put, List.getElem_toArray, List.getElem_cons_succ, List.getElem_cons_zero, List.setIfInBounds_toArray, List.set_cons_zero, List.set_cons_succ]
        refine wpAnyS_done (by kernel_rfl) ?_ _
        clear hHeld j0 j1 jk jb hfa hfb hkA hkB hpa hpb
        go_wp2_with fail
        go_meet
        case rel => exact HRES.out


  case rest =>
  obtain ⟨bA, bB, a, b, rfl, rfl, hap, hbp, ka, kb, hfa, hfb, hb2⟩ := hcut
  obtain ⟨wA, rfl⟩ : ∃ wA, wA = wc := ⟨_, rfl⟩
  have q1 := psm_ownQ x.p
  have q2 := psm_ownQ y.p
  have HPQ := Lib.hid (And.intro q1.1 q2.1)
  rw [← hap] at q1
  rw [← hbp] at q2
  obtain ⟨pa, la, _⟩ := q1
  obtain ⟨pb, lb, _⟩ := q2
  have hTa := fun (W : World) (h : Below wA.heap.size wA W) => ((hfa.ok.keep h).more h.size)
  have hTb := fun (W : World) (h : Below wA.heap.size wA W) => ((hfb.ok.keep h).more h.size)
  have sa := psm_sm hfa.ok pa
  have sb := psm_sm hfb.ok pb
  have nla := hfa.ok.nl
  have nlb := hfb.ok.nl
  have lea : a.es.length ≤ 30 := la
  have leb : b.es.length ≤ 30 := lb
  have HMV := Lib.hid (fun (row : Int) (W : World) (h : Below wA.heap.size wA W) => move_any a b row W (hTa W h) (hTb W h) sa.1 sb.1 ⟨sa.2.1.1, sa.2.1.2.1, sa.2.1.2.2.1⟩ ⟨sb.2.1.1, sb.2.1.2.1, sb.2.2⟩)
  have HCK := Lib.hid (fun (row : Int) (W : World) (h : Below wA.heap.size wA W) => (show Calls Try.prog 51 #[a.V, b.V, .int .i64 row] W (fun e w' => e = .returned (.int .i64 (mvE a b row)) ∧ Below W.heap.size W w') from
    (rcheck_any a b row W (hTa W h) (hTb W h) sa.1 sb.1 sa.2.1.2.1 (fun hbt => ((tyR_iff b.ty).1 (tabB_parts hbt).1).inj)).mono (by
      rintro en W' ⟨r, rfl, hr, hb⟩
      rw [chk_mvE nla nlb hfa.ok.esw (by omega) hr]
      exact ⟨rfl, hb⟩)))
  have HRM0 := Lib.hid (fun (row : Int) (h0 : mvE a b row = 0) (u v : Tab) (b0 : Nat) (W : World) (h1 : TabFresh W b0 u) (h2 : TabFresh W b0 v) (h3 : b0 ≤ W.heap.size) (h4 : u.p = ownQ x.p) (h5 : v.p = ownQ y.p) =>
    rmove_like b0 W h1 h2 h3 (h4.trans hap.symm) (h5.trans hbp.symm) nla nlb pa pb lea leb h0)
  have HPS0 := Lib.hid (fun (row : Int) (tf tt : Tab) (h1 : tf.p = mvF a b row) (h2 : tt.p = mvT a b row) (n3 : NL tf) (n4 : NL tt) => mv_psm hfa.ok.esw h1 h2 nla nlb n3 n4 pa pb lea leb)
  have HSA := Lib.hid (fun (t : Tab) (W : World) (hp : t.p = ownQ x.p) (ht : TabOk W W.heap.size t) (h : Below wA.heap.size wA W) => (show Calls Try.prog 22 #[a.V, t.V] W (fun e w' => e = .returned (.bool true) ∧ Below W.heap.size W w') from by
    have h1 : a.p = t.p := hap.trans hp.symm
    have h9 := rtsame_any a t W (hTa W h) ht sa.1 (psm_sm ht (by rw [hp]; exact HPQ.out.1)).1
    rw [tabQ_p h1] at h9
    exact h9))
  have HSB := Lib.hid (fun (t : Tab) (W : World) (hp : t.p = ownQ y.p) (ht : TabOk W W.heap.size t) (h : Below wA.heap.size wA W) => (show Calls Try.prog 22 #[b.V, t.V] W (fun e w' => e = .returned (.bool true) ∧ Below W.heap.size W w') from by
    have h1 : b.p = t.p := hbp.trans hp.symm
    have h9 := rtsame_any b t W (hTb W h) ht sb.1 (psm_sm ht (by rw [hp]; exact HPQ.out.2)).1
    rw [tabQ_p h1] at h9
    exact h9))
  have HKA := Lib.hid (fun (W : World) (h : Below wA.heap.size wA W) => And.intro (blk_cells3 (blk_below ka h)).1 (blk_cells3 (blk_below kb h)).1)
  have HC2 := Lib.hid (fun (W : World) (h : Below wA.heap.size wA W) => hb2.trans (h.mono hb2.size))
  have HBC := Lib.hid (HBW.out.trans (hb2.mono HBW.out.size))
  clear ka kb hfa hfb hb2 pa pb la lb hap hbp hTa hTb hx0 sa sb nla nlb lea leb
  go_wp2_with fail
  go_loopw [23] (fun i wr => ∃ k : Nat, (k ≤ rn ∧ k ≤ 6) ∧ i = .int .i64 k ∧ Below wA.heap.size wA wr)
    (fun i _ => rn - (intOf i).toNat)
  case atStart => exact ⟨0, ⟨Nat.zero_le _, Nat.zero_le _⟩, rfl, Below.refl _ _⟩
  case round =>
    obtain ⟨k, ⟨hk, hk6⟩, rfl, hb⟩ := hrel
    by_cases hlt : k < rn
    · have e1 := List.getElem?_eq_getElem (l := ws) (i := k) (by rw [HWL.out]; exact hlt)
      generalize ws[k]'(by rw [HWL.out]; exact hlt) = row at e1
      obtain ⟨bR, oR, rfl, hlR, gR⟩ := ins_cell HRR.out e1
      have g1 := cell_below' (HBC.out.trans (hb.mono HBC.out.size)) gR hlR
      have i1 : (k : Int) < (rn : Int) := by omega
      by_cases h6 : k = 6
      · have d6 : ((k : Int) == 6) = true := by subst h6; decide
        clear e1 gR h6
        go_wp2_with fail
        rw [← HPO.out]
        exact ⟨rfl, HBC.out.trans (hb.mono HBC.out.size)⟩
      · have d6 : ((k : Int) == 6) = false := by simp; omega
        obtain ⟨⟨a0, a1, a2⟩, ⟨b0, b1, b2⟩⟩ := HKA.out wr hb
        have cmv := HMV.out row wr hb
        have HCK1 := Lib.hid (HCK.out row)
        have HRM1 := Lib.hid (HRM0.out row)
        have HPS := Lib.hid (HPS0.out row)
        have HNO := Lib.hid (show mvE a b row ≠ 0 → mvF a b row = noT ∧ mvT a b row = noT ∧ mvR a b row = 0 ∧ mvM a b row = 0 from fun h => by
          unfold mvF mvT mvR mvM
          rw [if_neg h, if_neg h, if_neg h, if_neg h]
          exact ⟨rfl, rfl, rfl, rfl⟩)
        generalize mvE a b row = er at *
        generalize mvF a b row = pf at *
        generalize mvT a b row = pt at *
        generalize mvR a b row = mr at *
        generalize mvM a b row = mm at *
        unfold MovR at cmv
        unfold Tab.V at cmv
        have HCKV := Lib.hid (show ∀ (W : World), Below wA.heap.size wA W → _ from HCK1.out)
        have hk5 : k < 6 := by omega
        clear e1 gR h6 HCK1
        go_upto_region 9 with (first
          | (go_at_call 50; ((with_reducible refine cmv.mono ?_); rintro en w4 ⟨tf, tt, wm, rfl, hpf, hpt, htt, hbm, hkm, htf, hb4⟩))
          | fail)
        obtain ⟨X8, hX8⟩ : ∃ X8, X8 = w4.alloc (.cells #[.slice tf.TA tf.Tn tf.Tc, .slice tf.CA tf.Cn tf.Cc, .slice tf.EA tf.En tf.Ec, .slice tt.TA tt.Tn tt.Tc, .slice tt.CA tt.Cn tt.Cc, .slice tt.EA tt.En tt.Ec, .int .i64 mr, .int .u64 mm] 82) := ⟨_, rfl⟩
        have h48 : Below w4.heap.size w4 X8 := by rw [hX8]; exact (Below.refl _ _).alloc (Nat.le_refl _) _
        have k8 : Blk X8 w4.heap.size 82 #[.slice tf.TA tf.Tn tf.Tc, .slice tf.CA tf.Cn tf.Cc, .slice tf.EA tf.En tf.Ec, .slice tt.TA tt.Tn tt.Tc, .slice tt.CA tt.Cn tt.Cc, .slice tt.EA tt.En tt.Ec, .int .i64 mr, .int .u64 mm] := by rw [hX8]; exact Blk.new w4 _ _
        rw [← hX8]
        have h8 : Below wr.heap.size wr X8 := hb4.trans (h48.mono hb4.size)
        have hx8 : Below wA.heap.size wA X8 := hb.trans (h8.mono hb.size)
        have hkm8 : KeepT wm X8 := hkm.trans (KeepT.below h48)
        have htf8 := htf.below h48
        have hps := HPS.out tf tt hpf hpt htf.ok.nl htt.ok.nl
        have HWR := Lib.hid hb
        have HM8 := Lib.hid hkm8
        have HF8 := Lib.hid htf8
        have HT8 := Lib.hid htt
        have HBM := Lib.hid hbm
        have H8 := Lib.hid h8
        have HX8 := Lib.hid hx8
        have HK8 := Lib.hid k8
        have HPP := Lib.hid (And.intro hpf hpt)
        have HSM := Lib.hid hps
        have cck := HCKV.out X8 hx8
        unfold Tab.V at cck
        obtain ⟨⟨a0, a1, a2⟩, ⟨b0, b1, b2⟩⟩ := HKA.out X8 hx8
        generalize w4.heap.size = b11 at *
        clear hX8 h48 k8 h8 hkm hkm8 htf htf8 hps htt hbm hpf hpt hb4 cmv hb
        go_upto_region 10 with (first
          | (go_at_call 51; ((with_reducible refine cck.mono ?_); rintro en X9 ⟨rfl, hb9⟩))
          | fail)
        clear cck a0 a1 a2 b0 b1 b2 hx8
        go_upto_if 43 with fail
        obtain ⟨X10, hX10⟩ : ∃ X10, X10 = X9.alloc (.cells zMov 82) := ⟨_, rfl⟩
        have hb910 : Below X9.heap.size X9 X10 := by rw [hX10]; exact (Below.refl _ _).alloc (Nat.le_refl _) _
        have kz : Blk X10 X9.heap.size 82 zMov := by rw [hX10]; exact Blk.new X9 _ _
        unfold zMov at hX10
        rw [← hX10]
        unfold zMov at kz
        have HKZ := Lib.hid kz
        have HB9 := Lib.hid hb910
        have HX9 := Lib.hid (HX8.out.trans (hb9.mono HX8.out.size))
        have HX10 := Lib.hid (HX9.out.trans (hb910.mono HX9.out.size))
        have H89 := Lib.hid hb9
        clear hX10 hb910 kz hb9
        obtain ⟨tq, htq⟩ : ∃ tq, (er == 0) = tq := ⟨_, rfl⟩
        rw [htq]
        have HTQ := Lib.hid htq
        clear htq
        go_cut [] from 44 to 49 (fun wx => WantM pf pt mr mm X9 wx)
        case first =>
          by_cases her : er = 0
          · have HRM := Lib.hid (HRM1.out her)
            have htq := HTQ.out
            subst her
            obtain rfl : tq = true := by rw [← htq]; rfl
            clear htq HTQ
            go_upto_region 12 with fail
            refine wp_region_stop 6 (fun b w' => match b with | true => True | false => (w'.cell? ⟨w.heap.size, 0, none⟩ = some (.slice x.TA x.Tn x.Tc) ∧ w'.cell? ⟨w.heap.size, 1, none⟩ = some (.slice x.CA x.Cn x.Cc) ∧ w'.cell? ⟨w.heap.size, 2, none⟩ = some (.slice x.EA x.En x.Ec)) ∧ (w'.cell? ⟨w.heap.size + 1, 0, none⟩ = some (.slice y.TA y.Tn y.Tc) ∧ w'.cell? ⟨w.heap.size + 1, 1, none⟩ = some (.slice y.CA y.Cn y.Cc) ∧ w'.cell? ⟨w.heap.size + 1, 2, none⟩ = some (.slice y.EA y.En y.Ec))) (by kernel_rfl) (HS.out X10 (HC2.out X10 HX10.out)) (fun hHeld => ?_)
            obtain ⟨Y0, hY0⟩ : ∃ Y0, Y0 = X10.drew := ⟨_, rfl⟩
            have hb : Below X10.heap.size X10 Y0 := by rw [hY0]; exact (Below.refl _ _).drew
            have hlift := fun (W : World) (h : Below X10.heap.size X10 W) => HC2.out W (HX10.out.trans (h.mono HX10.out.size))
            rw [← hY0] at hHeld
            rw [← hY0]
            clear hY0
            refine wpAnyS_take (i := 0) (oi := _) (v := ?_) rfl (by kernel_rfl) (by kernel_rfl) (by kernel_rfl) (by kernel_rfl) (by kernel_rfl) (fun _ _ _ h => h) (Or.inl ⟨by rfl, ?_⟩) hHeld ?_
            rotate_left
            · intro w hSw; obtain ⟨⟨s0, s1, s2⟩, s3, s4, s5⟩ := hSw; go_simp; try with_reducible rfl
            simp only [Act.put, List.getElem_toArray, List.getElem_cons_succ, List.getElem_cons_zero, List.setIfInBounds_toArray, List.set_cons_zero, List.set_cons_succ]
            refine wpAnyS_take (i := 2) (oi := _) (v := ?_) rfl (by kernel_rfl) (by kernel_rfl) (by kernel_rfl) (by kernel_rfl) (by kernel_rfl) (fun _ _ _ h => h) (Or.inl ⟨by rfl, ?_⟩) hHeld ?_
            rotate_left
            · intro w hSw; obtain ⟨⟨s0, s1, s2⟩, s3, s4, s5⟩ := hSw; go_simp; try with_reducible rfl
            simp only [Act.put, List.getElem_toArray, List.getElem_cons_succ, List.getElem_cons_zero, List.setIfInBounds_toArray, List.set_cons_zero, List.set_cons_succ]
            refine wpAnyS_take (i := 4) (oi := _) (v := ?_) rfl (by kernel_rfl) (by kernel_rfl) (by kernel_rfl) (by kernel_rfl) (by kernel_rfl) (fun _ _ _ h => h) (Or.inl ⟨by rfl, ?_⟩) hHeld ?_
            rotate_left
            · intro w hSw; obtain ⟨⟨s0, s1, s2⟩, s3, s4, s5⟩ := hSw; go_simp; try with_reducible rfl
            simp only [Act.put, List.getElem_toArray, List.getElem_cons_succ, List.getElem_cons_zero, List.setIfInBounds_toArray, List.set_cons_zero, List.set_cons_succ]
            refine wpAnyS_ready (rs := [1]) (by kernel_rfl) (by simp) (AllReadyS.cons false (by kernel_rfl) (o := _) rfl (fun K hK => ?_) AllReadyS.nil)
            go_simp
            with_reducible refine (cx _ (hlift _ hb)).mono ?_
            rintro en y1 ⟨ta, rfl, hpa', hfa', hst⟩
            (try unfold Tab.V)
            have hfa' := hfa'.base hb.size
            have hb := hb.trans (hst.mono hb.size)
            clear hst
            refine hK.out _ _ (HS.out _ (hlift _ hb)) (fun hHeld => ?_)
            clear hK K
            try simp only [Act.put, List.getElem_toArray, List.getElem_cons_succ, List.getElem_cons_zero, List.setIfInBounds_toArray, List.set_cons_zero, List.set_cons_succ]
            refine wpAnyS_ready (rs := [3]) (by kernel_rfl) (by simp) (AllReadyS.cons false (by kernel_rfl) (o := _) rfl (fun K hK => ?_) AllReadyS.nil)
            go_simp
            with_reducible refine (cy _ (hlift _ hb)).mono ?_
            rintro en y2 ⟨tb, rfl, hpb', hfb', hst⟩
            (try unfold Tab.V)
            have hfb' := hfb'.base hb.size
            have hfa' := hfa'.below hst
            have hb := hb.trans (hst.mono hb.size)
            have crm := HRM.out ta tb X10.heap.size y2 hfa' hfb' hb.size hpa' hpb'
            unfold RMovR at crm
            unfold Tab.V at crm
            clear hst
            refine hK.out _ _ (HS.out _ (hlift _ hb)) (fun hHeld => ?_)
            clear hK K
            try simp only [Act.put, List.getElem_toArray, List.getElem_cons_succ, List.getElem_cons_zero, List.setIfInBounds_toArray, List.set_cons_zero, List.set_cons_succ]
            refine wpAnyS_ready (rs := [5]) (by kernel_rfl) (by simp) (AllReadyS.cons false (by kernel_rfl) (o := _) rfl (fun K hK => ?_) AllReadyS.nil)
            go_simp
            with_reducible refine crm.mono ?_
            rintro en y3 ⟨uf, ut, rfl, hpu, hpv, hfu, hfv, hst⟩
            have hb := hb.trans (hst.mono hb.size)
            have kz := blk_below HKZ.out hb
            obtain ⟨⟨z0, z1, z2, z3, z4, z5, z6, z7⟩, ⟨zf0, zf1, zf2, zf3, zf4, zf5, zf6, zf7⟩⟩ := blk_cells8 kz
            clear hst
            refine hK.out _ _ (HS.out _ (hlift _ hb)) (fun hHeld => ?_)
            clear hK K
            try simp only [Act.put, List.getElem_toArray, List.getElem_cons_succ, List.getElem_cons_zero, List.setIfInBounds_toArray, List.set_cons_zero, List.set_cons_succ]
            refine wpAnyS_ready (rs := [6]) (by kernel_rfl) (by simp) (AllReadyS.cons true (by kernel_rfl) (o := _) rfl (fun K hK => ?_) AllReadyS.nil)
            go_simp
            obtain ⟨x9, hx9⟩ : ∃ x9, x9 = set8 y3 X9.heap.size (.slice uf.TA uf.Tn uf.Tc) (.slice uf.CA uf.Cn uf.Cc) (.slice uf.EA uf.En uf.Ec) (.slice ut.TA ut.Tn ut.Tc) (.slice ut.CA ut.Cn ut.Cc) (.slice ut.EA ut.En ut.Ec) (.int .i64 mr) (.int .u64 mm) := ⟨_, rfl⟩
            obtain ⟨n1, n2, n3, n4, n5⟩ := set8_all kz (by decide) (.slice uf.TA uf.Tn uf.Tc) (.slice uf.CA uf.Cn uf.Cc) (.slice uf.EA uf.En uf.Ec) (.slice ut.TA ut.Tn ut.Tc) (.slice ut.CA ut.Cn ut.Cc) (.slice ut.EA ut.En ut.Ec) (.int .i64 mr) (.int .u64 mm)
            have n4 := n4 X9.heap.size (Nat.le_refl _)
            rw [← hx9] at n1 n3 n4
            have HRES := Lib.hid (show WantM pf pt mr mm X9 x9 from ⟨uf, ut, n1, hpu, hpv, (hfu.keep n3).ok, (hfv.keep n3).ok, HB9.out.trans ((hb.mono HB9.out.size).trans n4)⟩)
            change K _ (set8 y3 X9.heap.size (.slice uf.TA uf.Tn uf.Tc) (.slice uf.CA uf.Cn uf.Cc) (.slice uf.EA uf.En uf.Ec) (.slice ut.TA ut.Tn ut.Tc) (.slice ut.CA ut.Cn ut.Cc) (.slice ut.EA ut.En ut.Ec) (.int .i64 mr) (.int .u64 mm))
            rw [← hx9]
            clear hx9 n1 n2 n3 n4 n5 z0 z1 z2 z3 z4 z5 z6 z7 zf0 zf1 zf2 zf3 zf4 zf5 zf6 zf7
            refine hK.out _ _ trivial (fun hHeld => ?_)
            clear hK K
            try simp only [Act.put, List.getElem_toArray, List.getElem_cons_succ, List.getElem_cons_zero, List.setIfInBounds_toArray, List.set_cons_zero, List.set_cons_succ]
            refine wpAnyS_done (by kernel_rfl) ?_ _
            clear hHeld hlift hb
            go_wp2_with fail
            go_meet
            case rel => exact HRES.out

          · obtain ⟨rfl, rfl, rfl, rfl⟩ := HNO.out her
            obtain rfl : tq = false := by rw [← HTQ.out]; simpa using her
            clear her
            go_wp2_with fail
            go_meet
            case rel => exact wantM_nil HKZ.out HB9.out
        case rest =>
        obtain ⟨uf, ut, ku, hpu, hpv, hTu, hTv, h9c⟩ := hcut
        have h8c : Below X8.heap.size X8 wc := H89.out.trans (h9c.mono H89.out.size)
        have hkC : KeepT wm wc := HM8.out.trans (KeepT.below h8c)
        have hFf := HF8.out.below h8c
        have hFt := HT8.out.keep hkC
        have hTf := hFf.ok
        have hTt := hFt.ok
        have sf := psm_sm hTf HSM.out.1
        have st := psm_sm hTt HSM.out.2
        have su := psm_sm hTu (by rw [hpu, ← HPP.out.1]; exact HSM.out.1)
        have sv := psm_sm hTv (by rw [hpv, ← HPP.out.2]; exact HSM.out.2)
        have csm := rsame11_any tf tt uf ut mr mm wc hTf hTt hTu hTv sf.1 st.1 su.1 sv.1 (HPP.out.1.trans hpu.symm) (HPP.out.2.trans hpv.symm)
        have k8c := blk_below HK8.out h8c
        have HSF := Lib.hid sf.1
        have HST := Lib.hid st.1
        have H8C := Lib.hid h8c
        have HKC := Lib.hid hkC
        have HFF := Lib.hid hFf
        have HFT := Lib.hid hFt
        have HK8C := Lib.hid k8c
        obtain ⟨⟨c0, c1, c2, c3, c4, c5, c6, c7⟩, _⟩ := blk_cells8 k8c
        obtain ⟨⟨e0, e1, e2, e3, e4, e5, e6, e7⟩, _⟩ := blk_cells8 ku
        have d3 : (er != er) = false := by simp
        clear hTf hTt sf st su sv h8c hkC hFf hFt k8c ku hTu hTv hpu hpv h9c
        go_upto_region 15 with (first
          | (go_at_call 53; ((with_reducible refine csm.mono ?_); rintro en wS ⟨rfl, hbs⟩))
          | fail)
        clear csm c0 c1 c2 c3 c4 c5 c6 c7 e0 e1 e2 e3 e4 e5 e6 e7
        have h8s := H8C.out.trans (hbs.mono H8C.out.size)
        have hbm : wm.heap.size ≤ wS.heap.size := Nat.le_trans HKC.out.1 hbs.size
        have csp := spoil11v_any tf wm.heap.size wS (HFF.out.below hbs) hbm ⟨HSF.out.1, HSF.out.2.1, HSF.out.2.2.1, HSF.out.2.2.2⟩
        have k8s := blk_below HK8C.out hbs
        have HKS := Lib.hid (HKC.out.trans (KeepT.below hbs))
        have HK8S := Lib.hid k8s
        have H8S := Lib.hid h8s
        obtain ⟨⟨c0, c1, c2, c3, c4, c5, c6, c7⟩, _⟩ := blk_cells8 k8s
        unfold Tab.V at csp
        clear k8s h8s hbm hbs
        go_upto_region 16 with (first
          | (go_at_call 54; ((with_reducible refine csp.mono ?_); rintro en wT ⟨rfl, hvT⟩))
          | fail)
        clear csp c0 c1 c2 c3 c4 c5 c6 c7
        have hFt2 := HT8.out.keep (HKS.out.then_ hvT.1)
        have hsr : wr.heap.size ≤ wT.heap.size := Nat.le_trans HBM.out.size (Nat.le_trans HKS.out.1 hvT.1.size)
        have csp := spoil11v_any tt wr.heap.size wT hFt2 hsr ⟨HST.out.1, HST.out.2.1, HST.out.2.2.1, HST.out.2.2.2⟩
        obtain ⟨⟨c0, c1, c2, c3, c4, c5, c6, c7⟩, _⟩ := blk_cells8 (hvT.2 _ _ HK8S.out)
        have HVT := Lib.hid hvT.1
        unfold Tab.V at csp
        clear hFt2 hsr hvT
        go_upto_region 17 with (first
          | (go_at_call 54; ((with_reducible refine csp.mono ?_); rintro en wU ⟨rfl, hvU⟩))
          | fail)
        clear csp c0 c1 c2 c3 c4 c5 c6 c7
        have hrU : Below wr.heap.size wr wU := ((H8.out.trans (H8S.out.mono H8.out.size)).trans (HVT.out.mono HBM.out.size)).trans hvU.1
        have hc7 : Below wA.heap.size wA wU := HWR.out.trans (hrU.mono HWR.out.size)
        clear hrU hvU
        refine wp_region_held_drew (S := fun w' => ((w'.cell? ⟨bA, 0, none⟩ = some (.slice a.TA a.Tn a.Tc) ∧ w'.cell? ⟨bA, 1, none⟩ = some (.slice a.CA a.Cn a.Cc) ∧ w'.cell? ⟨bA, 2, none⟩ = some (.slice a.EA a.En a.Ec)) ∧ (w'.cell? ⟨bB, 0, none⟩ = some (.slice b.TA b.Tn b.Tc) ∧ w'.cell? ⟨bB, 1, none⟩ = some (.slice b.CA b.Cn b.Cc) ∧ w'.cell? ⟨bB, 2, none⟩ = some (.slice b.EA b.En b.Ec))) ∧ (w'.cell? ⟨w.heap.size, 0, none⟩ = some (.slice x.TA x.Tn x.Tc) ∧ w'.cell? ⟨w.heap.size, 1, none⟩ = some (.slice x.CA x.Cn x.Cc) ∧ w'.cell? ⟨w.heap.size, 2, none⟩ = some (.slice x.EA x.En x.Ec)) ∧ (w'.cell? ⟨w.heap.size + 1, 0, none⟩ = some (.slice y.TA y.Tn y.Tc) ∧ w'.cell? ⟨w.heap.size + 1, 1, none⟩ = some (.slice y.CA y.Cn y.Cc) ∧ w'.cell? ⟨w.heap.size + 1, 2, none⟩ = some (.slice y.EA y.En y.Ec))) (by kernel_rfl) ⟨HKA.out _ hc7.drew, HS.out _ (HC2.out _ hc7.drew)⟩ (fun hHeld => ?_)
        refine wpAnyH_take (i := 0) (oi := _) (v := ?_) rfl (by kernel_rfl) (by kernel_rfl) (by kernel_rfl) (fun _ _ _ h => h) (Or.inl ⟨by rfl, ?_⟩) hHeld ?_
        rotate_left
        · intro w hSw; obtain ⟨⟨⟨s0, s1, s2⟩, s3, s4, s5⟩, ⟨s6, s7, s8⟩, s9, sa, sb⟩ := hSw; go_simp; try with_reducible rfl
        simp only [Act.put, List.getElem_toArray, List.getElem_cons_succ, List.getElem_cons_zero, List.setIfInBounds_toArray, List.set_cons_zero, List.set_cons_succ]
        refine wpAnyH_take (i := 1) (oi := _) (v := ?_) rfl (by kernel_rfl) (by kernel_rfl) (by kernel_rfl) (fun _ _ _ h => h) (Or.inl ⟨by rfl, ?_⟩) hHeld ?_
        rotate_left
        · intro w hSw; obtain ⟨⟨⟨s0, s1, s2⟩, s3, s4, s5⟩, ⟨s6, s7, s8⟩, s9, sa, sb⟩ := hSw; go_simp; try with_reducible rfl
        simp only [Act.put, List.getElem_toArray, List.getElem_cons_succ, List.getElem_cons_zero, List.setIfInBounds_toArray, List.set_cons_zero, List.set_cons_succ]
        refine wpAnyH_ready (rs := [2]) (by kernel_rfl) (by simp) (AllReadyH.cons (o := _) rfl (fun K hK => ?_) AllReadyH.nil)
        go_simp
        with_reducible refine (cx _ (HC2.out _ hc7.drew)).mono ?_
        rintro en y1 ⟨ta, rfl, hpa', hfa', hst⟩
        (try unfold Tab.V)
        have hc8 := hc7.drew.trans (hst.mono hc7.drew.size)
        have csa := HSA.out ta y1 hpa' hfa'.ok hc8
        unfold Tab.V at csa
        refine hK.out _ _ ⟨HKA.out _ hc8, HS.out _ (HC2.out _ hc8)⟩ (fun hHeld => ?_)
        clear hK K
        try simp only [Act.put, List.getElem_toArray, List.getElem_cons_succ, List.getElem_cons_zero, List.setIfInBounds_toArray, List.set_cons_zero, List.set_cons_succ]
        refine wpAnyH_ready (rs := [3]) (by kernel_rfl) (by simp) (AllReadyH.cons (o := _) rfl (fun K hK => ?_) AllReadyH.nil)
        go_simp
        with_reducible refine csa.mono ?_
        rintro en y2 ⟨rfl, hst2⟩
        have hc9 := hc8.trans (hst2.mono hc8.size)
        refine hK.out _ _ ⟨HKA.out _ hc9, HS.out _ (HC2.out _ hc9)⟩ (fun hHeld => ?_)
        clear hK K
        try simp only [Act.put, List.getElem_toArray, List.getElem_cons_succ, List.getElem_cons_zero, List.setIfInBounds_toArray, List.set_cons_zero, List.set_cons_succ]
        refine wpAnyH_take (i := 4) (oi := _) (v := ?_) rfl (by kernel_rfl) (by kernel_rfl) (by kernel_rfl) (fun _ _ _ h => h) (Or.inl ⟨by rfl, ?_⟩) hHeld ?_
        rotate_left
        · intro w hSw; obtain ⟨⟨⟨s0, s1, s2⟩, s3, s4, s5⟩, ⟨s6, s7, s8⟩, s9, sa, sb⟩ := hSw; go_simp; try with_reducible rfl
        simp only [Act.put, List.getElem_toArray, List.getElem_cons_succ, List.getElem_cons_zero, List.setIfInBounds_toArray, List.set_cons_zero, List.set_cons_succ]
        refine wpAnyH_take (i := 5) (oi := _) (v := ?_) rfl (by kernel_rfl) (by kernel_rfl) (by kernel_rfl) (fun _ _ _ h => h) (Or.inl ⟨by rfl, ?_⟩) hHeld ?_
        rotate_left
        · intro w hSw; obtain ⟨⟨⟨s0, s1, s2⟩, s3, s4, s5⟩, ⟨s6, s7, s8⟩, s9, sa, sb⟩ := hSw; go_simp; try with_reducible rfl
        simp only [Act.put, List.getElem_toArray, List.getElem_cons_succ, List.getElem_cons_zero, List.setIfInBounds_toArray, List.set_cons_zero, List.set_cons_succ]
        refine wpAnyH_take (i := 6) (oi := _) (v := ?_) rfl (by kernel_rfl) (by kernel_rfl) (by kernel_rfl) (fun _ _ _ h => h) (Or.inl ⟨by rfl, ?_⟩) hHeld ?_
        rotate_left
        · intro w hSw; obtain ⟨⟨⟨s0, s1, s2⟩, s3, s4, s5⟩, ⟨s6, s7, s8⟩, s9, sa, sb⟩ := hSw; go_simp; try with_reducible rfl
        simp only [Act.put, List.getElem_toArray, List.getElem_cons_succ, List.getElem_cons_zero, List.setIfInBounds_toArray, List.set_cons_zero, List.set_cons_succ]
        refine wpAnyH_take (i := 7) (oi := _) (v := ?_) rfl (by kernel_rfl) (by kernel_rfl) (by kernel_rfl) (fun _ _ _ h => h) (Or.inl ⟨by rfl, ?_⟩) hHeld ?_
        rotate_left
        · intro w hSw; obtain ⟨⟨⟨s0, s1, s2⟩, s3, s4, s5⟩, ⟨s6, s7, s8⟩, s9, sa, sb⟩ := hSw; go_simp; try with_reducible rfl
        simp only [Act.put, List.getElem_toArray, List.getElem_cons_succ, List.getElem_cons_zero, List.setIfInBounds_toArray, List.set_cons_zero, List.set_cons_succ]
        refine wpAnyH_ready (rs := [8]) (by kernel_rfl) (by simp) (AllReadyH.cons (o := _) rfl (fun K hK => ?_) AllReadyH.nil)
        go_simp
        with_reducible refine (cy _ (HC2.out _ hc9)).mono ?_
        rintro en y3 ⟨tb, rfl, hpb', hfb', hst3⟩
        (try unfold Tab.V)
        have hca := hc9.trans (hst3.mono hc9.size)
        have csb := HSB.out tb y3 hpb' hfb'.ok hca
        unfold Tab.V at csb
        refine hK.out _ _ ⟨HKA.out _ hca, HS.out _ (HC2.out _ hca)⟩ (fun hHeld => ?_)
        clear hK K
        try simp only [Act.put, List.getElem_toArray, List.getElem_cons_succ, List.getElem_cons_zero, List.setIfInBounds_toArray, List.set_cons_zero, List.set_cons_succ]
        refine wpAnyH_ready (rs := [9]) (by kernel_rfl) (by simp) (AllReadyH.cons (o := _) rfl (fun K hK => ?_) AllReadyH.nil)
        go_simp
        with_reducible refine csb.mono ?_
        rintro en y4 ⟨rfl, hst4⟩
        have hcb := hca.trans (hst4.mono hca.size)
        refine hK.out _ _ ⟨HKA.out _ hcb, HS.out _ (HC2.out _ hcb)⟩ (fun hHeld => ?_)
        clear hK K
        try simp only [Act.put, List.getElem_toArray, List.getElem_cons_succ, List.getElem_cons_zero, List.setIfInBounds_toArray, List.set_cons_zero, List.set_cons_succ]
        refine wpAnyH_take (i := 10) (oi := _) (v := ?_) rfl (by kernel_rfl) (by kernel_rfl) (by kernel_rfl) (fun _ _ _ h => h) (Or.inl ⟨by rfl, ?_⟩) hHeld ?_
        rotate_left
        · intro w hSw; obtain ⟨⟨⟨s0, s1, s2⟩, s3, s4, s5⟩, ⟨s6, s7, s8⟩, s9, sa, sb⟩ := hSw; go_simp; try with_reducible rfl
        simp only [Act.put, List.getElem_toArray, List.getElem_cons_succ, List.getElem_cons_zero, List.setIfInBounds_toArray, List.set_cons_zero, List.set_cons_succ]
        refine wpAnyH_take (i := 11) (oi := _) (v := ?_) rfl (by kernel_rfl) (by kernel_rfl) (by kernel_rfl) (fun _ _ _ h => h) (Or.inl ⟨by rfl, ?_⟩) hHeld ?_
        rotate_left
        · intro w hSw; obtain ⟨⟨⟨s0, s1, s2⟩, s3, s4, s5⟩, ⟨s6, s7, s8⟩, s9, sa, sb⟩ := hSw; go_simp; try with_reducible rfl
        simp only [Act.put, List.getElem_toArray, List.getElem_cons_succ, List.getElem_cons_zero, List.setIfInBounds_toArray, List.set_cons_zero, List.set_cons_succ]
        refine wpAnyH_done (by kernel_rfl) ?_ _
        clear hHeld csa csb
        go_wp2_with fail
        go_roundw
        case rel => exact ⟨k + 1, ⟨by omega, by omega⟩, by go_num, hcb⟩
        case measure => simp [intOf]; omega
    · have hke : k = rn := by omega
      subst hke
      have i1 : ¬ ((k : Int) < (k : Int)) := by omega
      go_wp2_with fail
      rw [← HPO.out]
      exact ⟨rfl, HBC.out.trans (hb.mono HBC.out.size)⟩
theorem moves_row (x y : Tab) (NA : Option Addr) (nn nc : Nat) (ws : List Int) (hnc : nn ≤ nc) (hn : nc * 8 ≤ 140737488351232) (hww : ∀ x ∈ ws, (Lit.int .i64 x).wf = true) (w : World) (hx : TabOk w w.heap.size x) (hy : TabOk w w.heap.size y) (hRn : Reads w w.heap.size 1 NA nn (ws.map (Value.int .i64))) :
    Calls Try.prog 10 #[x.V, y.V, .slice NA nn nc] w fun en w' => en = .returned (.bool true) ∧ Below w.heap.size w w' := moves_walk x y NA nn nc ws w hx hy hRn
end Go.Proofs.Ytbcbknajhdaneaa
