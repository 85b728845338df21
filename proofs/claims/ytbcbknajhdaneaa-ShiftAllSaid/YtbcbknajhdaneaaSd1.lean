/- What is proved: slices.Concat of two rows of ids; what a law's two tables are; ShiftAll's walk. -/
import Derived.Test.YtbcbknajhdaneaaSd2
import Derived.Test.YtbcbknajhdaneaaStop
import Derived.Lib.AppendZerosOnto
import Derived.Deep.CutRange
import Derived.Deep.CutBlock
namespace Go.Proofs.Ytbcbknajhdaneaa
open Go.RowKit Go.Maps
set_option linter.unusedVariables false
set_option linter.unusedSimpArgs false
/-- both tables of a law, in memory of their own -/
def OwnAB (W2 : World) (p q : PT) (s5 s6 : Value) (wx : World) : Prop :=
  ∃ (bA bB : Nat) (a b : Tab), s5 = .pointer (some ⟨bA, 0, none⟩) ∧ s6 = .pointer (some ⟨bB, 0, none⟩) ∧ a.p = p ∧ b.p = q ∧ Blk wx bA 25 #[.slice a.TA a.Tn a.Tc, .slice a.CA a.Cn a.Cc, .slice a.EA a.En a.Ec] ∧
    Blk wx bB 25 #[.slice b.TA b.Tn b.Tc, .slice b.CA b.Cn b.Cc, .slice b.EA b.En b.Ec] ∧ TabFresh wx W2.heap.size a ∧ TabFresh wx W2.heap.size b ∧ Below W2.heap.size W2 wx
theorem psm_ownQ (p : PT) : PSm (ownQ p) ∧ (ownQ p).2.2.length ≤ 30 ∧ (ownQ p).2.1.length ≤ 14 ∧ (ownQ p).1.length ≤ 14 ∧ ∀ q ∈ (ownQ p).2.1, q.2.2.length ≤ 150 := by
  have h1 : (ownQ p).1.length ≤ 14 := by show (p.1.take 14).length ≤ 14; rw [List.length_take]; omega
  have h2 : (ownQ p).2.1.length ≤ 14 := ownG_le _
  have h3 : (ownQ p).2.2.length ≤ 30 := by show (p.2.2.take 30).length ≤ 30; rw [List.length_take]; omega
  have h4 : ∀ q ∈ (ownQ p).2.1, q.2.2.length ≤ 150 := fun q hq => by
    obtain ⟨z, _, rfl⟩ := List.mem_map.1 hq
    show (z.2.2.take 150).length ≤ 150
    rw [List.length_take]; omega
  exact ⟨⟨by omega, by omega, by omega, fun q hq => by have := h4 q hq; omega⟩, h3, h2, h1, h4⟩
set_option maxRecDepth 100000 in
set_option maxHeartbeats 16000000 in
theorem all_walk (x y : Tab) (w : World) (hx : TabOk w w.heap.size x) (hy : TabOk w w.heap.size y) :
    Calls Try.prog 11 #[x.V, y.V] w fun e w' => e = .returned (.bool true) ∧ Below w.heap.size w w' := by
  obtain ⟨W0, hW0, hB, hsz, k0, k1⟩ := two_blk w 25 25 #[.slice x.TA x.Tn x.Tc, .slice x.CA x.Cn x.Cc, .slice x.EA x.En x.Ec] #[.slice y.TA y.Tn y.Tc, .slice y.CA y.Cn y.Cc, .slice y.EA y.En y.Ec]
  have hTx := fun (W : World) (h : Below W0.heap.size W0 W) => (hx.keep (hB.trans (h.mono hB.size))).more (hB.trans (h.mono hB.size)).size
  have hTy := fun (W : World) (h : Below W0.heap.size W0 W) => (hy.keep (hB.trans (h.mono hB.size))).more (hB.trans (h.mono hB.size)).size
  have cwk := fun W => wakes11_any W
  have HW := Lib.hid hW0
  have HB := Lib.hid hB
  have HK := Lib.hid (fun (W : World) (h : Below W0.heap.size W0 W) => And.intro (blk_cells3 (blk_below k0 h)).1 (blk_cells3 (blk_below k1 h)).1)
  have HTX := Lib.hid hTx
  have HTY := Lib.hid hTy
  generalize hpost : (fun e w' => e = Ending.returned (.bool true) ∧ Below w.heap.size w w') = POST
  have HPO := Lib.hid hpost
  unfold Tab.V
  clear hW0 hsz k0 k1 hx hy hB hTx hTy hpost
  go_enter Try.func11, Try.ntmps11
  go_upto_region 1 with fail
  rw [← HW.out]
  go_upto_region 3 with (first
    | (go_at_call 48; ((with_reducible refine (cwk _).mono ?_); rintro en W2 ⟨rfl, hbw⟩))
    | fail)
  have cx := fun (W : World) (h : Below W2.heap.size W2 W) => own11_any x W (HTX.out W (hbw.trans (h.mono hbw.size)))
  have cy := fun (W : World) (h : Below W2.heap.size W2 W) => own11_any y W (HTY.out W (hbw.trans (h.mono hbw.size)))
  unfold OwnT at cx cy
  unfold Tab.V at cx cy
  have HS := Lib.hid (fun (W : World) (h : Below W2.heap.size W2 W) => HK.out W (hbw.trans (h.mono hbw.size)))
  have hx0 := HS.out W2 (Below.refl _ _)
  have HBW := Lib.hid (HB.out.trans (hbw.mono HB.out.size))
  clear hbw cwk
  go_cut [5, 6] from 17 to 20 (fun s5 s6 wx => OwnAB W2 (ownQ x.p) (ownQ y.p) s5 s6 wx)
  case first =>
    refine wp_region_stop 7 (fun b w' => match b with | true => True | false => (w'.cell? ⟨w.heap.size, 0, none⟩ = some (.slice x.TA x.Tn x.Tc) ∧ w'.cell? ⟨w.heap.size, 1, none⟩ = some (.slice x.CA x.Cn x.Cc) ∧ w'.cell? ⟨w.heap.size, 2, none⟩ = some (.slice x.EA x.En x.Ec)) ∧ (w'.cell? ⟨w.heap.size + 1, 0, none⟩ = some (.slice y.TA y.Tn y.Tc) ∧ w'.cell? ⟨w.heap.size + 1, 1, none⟩ = some (.slice y.CA y.Cn y.Cc) ∧ w'.cell? ⟨w.heap.size + 1, 2, none⟩ = some (.slice y.EA y.En y.Ec))) (by kernel_rfl) hx0 (fun hHeld => ?_)
    obtain ⟨Y0, hY0⟩ : ∃ Y0, Y0 = W2.drew := ⟨_, rfl⟩
    have hb : Below W2.heap.size W2 Y0 := by rw [hY0]; exact (Below.refl _ _).drew
    rw [← hY0] at hHeld
    rw [← hY0]
    clear hY0 hx0
    refine wpAnyS_take (i := 0) (oi := _) (v := ?_) rfl (by kernel_rfl) (by kernel_rfl) (by kernel_rfl) (by kernel_rfl) (by kernel_rfl) (fun _ _ _ h => h) (Or.inl ⟨by rfl, ?_⟩) hHeld ?_
    rotate_left
    · intro w hSw; obtain ⟨⟨s0, s1, s2⟩, s3, s4, s5⟩ := hSw; go_simp; try with_reducible rfl
    simp only [Act.put, List.getElem_toArray, List.getElem_cons_succ, List.getElem_cons_zero, List.setIfInBounds_toArray, List.set_cons_zero, List.set_cons_succ]
    refine wpAnyS_take (i := 2) (oi := _) (v := ?_) rfl (by kernel_rfl) (by kernel_rfl) (by kernel_rfl) (by kernel_rfl) (by kernel_rfl) (fun _ _ _ h => h) (Or.inl ⟨by rfl, ?_⟩) hHeld ?_
    rotate_left
    · intro w hSw; obtain ⟨⟨s0, s1, s2⟩, s3, s4, s5⟩ := hSw; go_simp; try with_reducible rfl
    simp only [Act.put, List.getElem_toArray, List.getElem_cons_succ, List.getElem_cons_zero, List.setIfInBounds_toArray, List.set_cons_zero, List.set_cons_succ]

    refine wpAnyS_ready (rs := [1, 4, 5]) (by kernel_rfl) (by simp) (AllReadyS.cons false (by kernel_rfl) (o := _) rfl (fun K hK => ?_) (AllReadyS.cons false (by kernel_rfl) (o := _) rfl (fun K hK => ?_) (AllReadyS.cons false (by kernel_rfl) (o := _) rfl (fun K hK => ?_) AllReadyS.nil)))
    · skip
      go_simp
      with_reducible refine (cx _ hb).mono ?_
      rintro en Y0p ⟨ta, rfl, hpa, hfa, hst⟩
      (try unfold Tab.V)
      have hfa := hfa.base hb.size
      have hb := hb.trans (hst.mono hb.size)
      refine hK.out _ _ (HS.out _ hb) (fun hHeld => ?_)
      clear hK K hst
      try simp only [Act.put, List.getElem_toArray, List.getElem_cons_succ, List.getElem_cons_zero, List.setIfInBounds_toArray, List.set_cons_zero, List.set_cons_succ]

      refine wpAnyS_ready (rs := [3, 4, 5]) (by kernel_rfl) (by simp) (AllReadyS.cons false (by kernel_rfl) (o := _) rfl (fun K hK => ?_) (AllReadyS.cons false (by kernel_rfl) (o := _) rfl (fun K hK => ?_) (AllReadyS.cons false (by kernel_rfl) (o := _) rfl (fun K hK => ?_) AllReadyS.nil)))
      · skip
        go_simp
        with_reducible refine (cy _ hb).mono ?_
        rintro en Y0pq ⟨tb, rfl, hpb, hfb, hst⟩
        (try unfold Tab.V)
        have hfb := hfb.base hb.size
        have hfa := hfa.below hst
        have hb := hb.trans (hst.mono hb.size)
        refine hK.out _ _ (HS.out _ hb) (fun hHeld => ?_)
        clear hK K hst
        try simp only [Act.put, List.getElem_toArray, List.getElem_cons_succ, List.getElem_cons_zero, List.setIfInBounds_toArray, List.set_cons_zero, List.set_cons_succ]

        refine wpAnyS_ready (rs := [4, 5]) (by kernel_rfl) (by simp) (AllReadyS.cons false (by kernel_rfl) (o := _) rfl (fun K hK => ?_) (AllReadyS.cons false (by kernel_rfl) (o := _) rfl (fun K hK => ?_) AllReadyS.nil))
        · skip
          go_simp
          obtain ⟨Y0pqA, hnx⟩ : ∃ Y, Y = Y0pq.alloc (.cells #[.slice none 0 0, .slice none 0 0, .slice none 0 0] 25) := ⟨_, rfl⟩
          have hst : Below Y0pq.heap.size Y0pq Y0pqA := by rw [hnx]; exact (Below.refl _ _).alloc (Nat.le_refl _) _
          have hkA : Blk Y0pqA Y0pq.heap.size 25 #[.slice none 0 0, .slice none 0 0, .slice none 0 0] := by rw [hnx]; exact Blk.new Y0pq _ _
          have hlA : W2.heap.size ≤ Y0pq.heap.size := hb.size
          have hfa := hfa.below hst
          have hfb := hfb.below hst
          have hb := hb.trans (hst.mono hb.size)
          rw [← hnx]

          generalize Y0pq.heap.size = bA at *
          refine hK.out _ _ (HS.out _ hb) (fun hHeld => ?_)
          clear hK K hst hnx
          try simp only [Act.put, List.getElem_toArray, List.getElem_cons_succ, List.getElem_cons_zero, List.setIfInBounds_toArray, List.set_cons_zero, List.set_cons_succ]

          refine wpAnyS_ready (rs := [5]) (by kernel_rfl) (by simp) (AllReadyS.cons false (by kernel_rfl) (o := _) rfl (fun K hK => ?_) AllReadyS.nil)
          go_simp
          obtain ⟨Y0pqAB, hnx⟩ : ∃ Y, Y = Y0pqA.alloc (.cells #[.slice none 0 0, .slice none 0 0, .slice none 0 0] 25) := ⟨_, rfl⟩
          have hst : Below Y0pqA.heap.size Y0pqA Y0pqAB := by rw [hnx]; exact (Below.refl _ _).alloc (Nat.le_refl _) _
          have hkB : Blk Y0pqAB Y0pqA.heap.size 25 #[.slice none 0 0, .slice none 0 0, .slice none 0 0] := by rw [hnx]; exact Blk.new Y0pqA _ _
          have hlB : W2.heap.size ≤ Y0pqA.heap.size := hb.size
          have hfa := hfa.below hst
          have hfb := hfb.below hst
          have hkA0 := hkA
          have hkA := blk_below hkA hst
          have hb := hb.trans (hst.mono hb.size)
          rw [← hnx]
          have hAB : bA < Y0pqA.heap.size := hkA0.lt
          generalize Y0pqA.heap.size = bB at *
          refine hK.out _ _ (HS.out _ hb) (fun hHeld => ?_)
          clear hK K hst hnx
          try simp only [Act.put, List.getElem_toArray, List.getElem_cons_succ, List.getElem_cons_zero, List.setIfInBounds_toArray, List.set_cons_zero, List.set_cons_succ]

          generalize Y0pqAB = Y at *
          have hne : bA ≠ bB := by omega
          obtain ⟨⟨t0, t1, t2⟩, zf⟩ := blk_cells3 hkA
          have zf0 := zf 0
          have zf1 := zf 1
          have zf2 := zf 2
          clear zf
          refine wpAnyS_ready (rs := [6]) (by kernel_rfl) (by simp) (AllReadyS.cons false (by kernel_rfl) (o := _) rfl (fun K hK => ?_) AllReadyS.nil)
          go_simp
          obtain ⟨x6, hx6⟩ : ∃ x6, x6 = set3 Y bA (.slice ta.TA ta.Tn ta.Tc) (.slice ta.CA ta.Cn ta.Cc) (.slice ta.EA ta.En ta.Ec) := ⟨_, rfl⟩
          have j0 := set3_blk hkA (.slice ta.TA ta.Tn ta.Tc) (.slice ta.CA ta.Cn ta.Cc) (.slice ta.EA ta.En ta.Ec)
          have j1 := set3_far (g := bA) hkB (fun e => hne e.symm) (.slice ta.TA ta.Tn ta.Tc) (.slice ta.CA ta.Cn ta.Cc) (.slice ta.EA ta.En ta.Ec)
          have jk := set3_keep hkA (.slice ta.TA ta.Tn ta.Tc) (.slice ta.CA ta.Cn ta.Cc) (.slice ta.EA ta.En ta.Ec)
          have jb := hb.trans (set3_below (W := Y) (B := W2.heap.size) (g := bA) (by omega) (.slice ta.TA ta.Tn ta.Tc) (.slice ta.CA ta.Cn ta.Cc) (.slice ta.EA ta.En ta.Ec))
          rw [← hx6] at j0 j1 jk jb
          change K _ (set3 Y bA (.slice ta.TA ta.Tn ta.Tc) (.slice ta.CA ta.Cn ta.Cc) (.slice ta.EA ta.En ta.Ec))
          rw [← hx6]
          clear t0 t1 t2 zf0 zf1 zf2 hx6
          obtain ⟨⟨t0, t1, t2⟩, zf⟩ := blk_cells3 j1
          have zf0 := zf 0
          have zf1 := zf 1
          have zf2 := zf 2
          clear zf
          refine hK.out _ _ (HS.out _ jb) (fun hHeld => ?_)
          clear hK K
          try simp only [Act.put, List.getElem_toArray, List.getElem_cons_succ, List.getElem_cons_zero, List.setIfInBounds_toArray, List.set_cons_zero, List.set_cons_succ]
          refine wpAnyS_ready (rs := [7]) (by kernel_rfl) (by simp) (AllReadyS.cons true (by kernel_rfl) (o := _) rfl (fun K hK => ?_) AllReadyS.nil)
          go_simp
          obtain ⟨x7, hx7⟩ : ∃ x7, x7 = set3 x6 bB (.slice tb.TA tb.Tn tb.Tc) (.slice tb.CA tb.Cn tb.Cc) (.slice tb.EA tb.En tb.Ec) := ⟨_, rfl⟩
          have hres : OwnAB W2 (ownQ x.p) (ownQ y.p) (.pointer (some ⟨bA, 0, none⟩)) (.pointer (some ⟨bB, 0, none⟩)) x7 := by
            have ik := jk.trans (set3_keep j1 (.slice tb.TA tb.Tn tb.Tc) (.slice tb.CA tb.Cn tb.Cc) (.slice tb.EA tb.En tb.Ec))
            have ib := jb.trans (set3_below (W := x6) (B := W2.heap.size) (g := bB) (by omega) (.slice tb.TA tb.Tn tb.Tc) (.slice tb.CA tb.Cn tb.Cc) (.slice tb.EA tb.En tb.Ec))
            have i0 := set3_far (g := bB) j0 hne (.slice tb.TA tb.Tn tb.Tc) (.slice tb.CA tb.Cn tb.Cc) (.slice tb.EA tb.En tb.Ec)
            have i1 := set3_blk j1 (.slice tb.TA tb.Tn tb.Tc) (.slice tb.CA tb.Cn tb.Cc) (.slice tb.EA tb.En tb.Ec)
            rw [← hx7] at ik ib i0 i1
            exact ⟨bA, bB, ta, tb, rfl, rfl, hpa, hpb, i0, i1, hfa.keep ik, hfb.keep ik, ib⟩
          change K _ (set3 x6 bB (.slice tb.TA tb.Tn tb.Tc) (.slice tb.CA tb.Cn tb.Cc) (.slice tb.EA tb.En tb.Ec))
          rw [← hx7]
          have HRES := Lib.hid hres
          clear t0 t1 t2 zf0 zf1 zf2 hx7 hres
          refine hK.out _ _ trivial (fun hHeld => ?_)
          clear hK K
          try simp only [Act.put, List.getElem_toArray, List.getElem_cons_succ, List.getElem_cons_zero, List.setIfInBounds_toArray, List.set_cons_zero, List.set_cons_succ]
          refine wpAnyS_done (by kernel_rfl) ?_ _
          clear hHeld j0 j1 jk jb hfa hfb hkA hkB hpa hpb
          go_wp2_with fail
          go_meet
          case rel => exact HRES.out

        · skip
          go_simp
          obtain ⟨Y0pqB, hnx⟩ : ∃ Y, Y = Y0pq.alloc (.cells #[.slice none 0 0, .slice none 0 0, .slice none 0 0] 25) := ⟨_, rfl⟩
          have hst : Below Y0pq.heap.size Y0pq Y0pqB := by rw [hnx]; exact (Below.refl _ _).alloc (Nat.le_refl _) _
          have hkB : Blk Y0pqB Y0pq.heap.size 25 #[.slice none 0 0, .slice none 0 0, .slice none 0 0] := by rw [hnx]; exact Blk.new Y0pq _ _
          have hlB : W2.heap.size ≤ Y0pq.heap.size := hb.size
          have hfa := hfa.below hst
          have hfb := hfb.below hst
          have hb := hb.trans (hst.mono hb.size)
          rw [← hnx]

          generalize Y0pq.heap.size = bB at *
          refine hK.out _ _ (HS.out _ hb) (fun hHeld => ?_)
          clear hK K hst hnx
          try simp only [Act.put, List.getElem_toArray, List.getElem_cons_succ, List.getElem_cons_zero, List.setIfInBounds_toArray, List.set_cons_zero, List.set_cons_succ]

          refine wpAnyS_ready (rs := [4]) (by kernel_rfl) (by simp) (AllReadyS.cons false (by kernel_rfl) (o := _) rfl (fun K hK => ?_) AllReadyS.nil)
          go_simp
          obtain ⟨Y0pqBA, hnx⟩ : ∃ Y, Y = Y0pqB.alloc (.cells #[.slice none 0 0, .slice none 0 0, .slice none 0 0] 25) := ⟨_, rfl⟩
          have hst : Below Y0pqB.heap.size Y0pqB Y0pqBA := by rw [hnx]; exact (Below.refl _ _).alloc (Nat.le_refl _) _
          have hkA : Blk Y0pqBA Y0pqB.heap.size 25 #[.slice none 0 0, .slice none 0 0, .slice none 0 0] := by rw [hnx]; exact Blk.new Y0pqB _ _
          have hlA : W2.heap.size ≤ Y0pqB.heap.size := hb.size
          have hfa := hfa.below hst
          have hfb := hfb.below hst
          have hkB0 := hkB
          have hkB := blk_below hkB hst
          have hb := hb.trans (hst.mono hb.size)
          rw [← hnx]
          have hAB : bB < Y0pqB.heap.size := hkB0.lt
          generalize Y0pqB.heap.size = bA at *
          refine hK.out _ _ (HS.out _ hb) (fun hHeld => ?_)
          clear hK K hst hnx
          try simp only [Act.put, List.getElem_toArray, List.getElem_cons_succ, List.getElem_cons_zero, List.setIfInBounds_toArray, List.set_cons_zero, List.set_cons_succ]

          generalize Y0pqBA = Y at *
          have hne : bA ≠ bB := by omega
          obtain ⟨⟨t0, t1, t2⟩, zf⟩ := blk_cells3 hkA
          have zf0 := zf 0
          have zf1 := zf 1
          have zf2 := zf 2
          clear zf
          refine wpAnyS_ready (rs := [6]) (by kernel_rfl) (by simp) (AllReadyS.cons false (by kernel_rfl) (o := _) rfl (fun K hK => ?_) AllReadyS.nil)
          go_simp
          obtain ⟨x6, hx6⟩ : ∃ x6, x6 = set3 Y bA (.slice ta.TA ta.Tn ta.Tc) (.slice ta.CA ta.Cn ta.Cc) (.slice ta.EA ta.En ta.Ec) := ⟨_, rfl⟩
          have j0 := set3_blk hkA (.slice ta.TA ta.Tn ta.Tc) (.slice ta.CA ta.Cn ta.Cc) (.slice ta.EA ta.En ta.Ec)
          have j1 := set3_far (g := bA) hkB (fun e => hne e.symm) (.slice ta.TA ta.Tn ta.Tc) (.slice ta.CA ta.Cn ta.Cc) (.slice ta.EA ta.En ta.Ec)
          have jk := set3_keep hkA (.slice ta.TA ta.Tn ta.Tc) (.slice ta.CA ta.Cn ta.Cc) (.slice ta.EA ta.En ta.Ec)
          have jb := hb.trans (set3_below (W := Y) (B := W2.heap.size) (g := bA) (by omega) (.slice ta.TA ta.Tn ta.Tc) (.slice ta.CA ta.Cn ta.Cc) (.slice ta.EA ta.En ta.Ec))
          rw [← hx6] at j0 j1 jk jb
          change K _ (set3 Y bA (.slice ta.TA ta.Tn ta.Tc) (.slice ta.CA ta.Cn ta.Cc) (.slice ta.EA ta.En ta.Ec))
          rw [← hx6]
          clear t0 t1 t2 zf0 zf1 zf2 hx6
          obtain ⟨⟨t0, t1, t2⟩, zf⟩ := blk_cells3 j1
          have zf0 := zf 0
          have zf1 := zf 1
          have zf2 := zf 2
          clear zf
          refine hK.out _ _ (HS.out _ jb) (fun hHeld => ?_)
          clear hK K
          try simp only [Act.put, List.getElem_toArray, List.getElem_cons_succ, List.getElem_cons_zero, List.setIfInBounds_toArray, List.set_cons_zero, List.set_cons_succ]
          refine wpAnyS_ready (rs := [7]) (by kernel_rfl) (by simp) (AllReadyS.cons true (by kernel_rfl) (o := _) rfl (fun K hK => ?_) AllReadyS.nil)
          go_simp
          obtain ⟨x7, hx7⟩ : ∃ x7, x7 = set3 x6 bB (.slice tb.TA tb.Tn tb.Tc) (.slice tb.CA tb.Cn tb.Cc) (.slice tb.EA tb.En tb.Ec) := ⟨_, rfl⟩
          have hres : OwnAB W2 (ownQ x.p) (ownQ y.p) (.pointer (some ⟨bA, 0, none⟩)) (.pointer (some ⟨bB, 0, none⟩)) x7 := by
            have ik := jk.trans (set3_keep j1 (.slice tb.TA tb.Tn tb.Tc) (.slice tb.CA tb.Cn tb.Cc) (.slice tb.EA tb.En tb.Ec))
            have ib := jb.trans (set3_below (W := x6) (B := W2.heap.size) (g := bB) (by omega) (.slice tb.TA tb.Tn tb.Tc) (.slice tb.CA tb.Cn tb.Cc) (.slice tb.EA tb.En tb.Ec))
            have i0 := set3_far (g := bB) j0 hne (.slice tb.TA tb.Tn tb.Tc) (.slice tb.CA tb.Cn tb.Cc) (.slice tb.EA tb.En tb.Ec)
            have i1 := set3_blk j1 (.slice tb.TA tb.Tn tb.Tc) (.slice tb.CA tb.Cn tb.Cc) (.slice tb.EA tb.En tb.Ec)
            rw [← hx7] at ik ib i0 i1
            exact ⟨bA, bB, ta, tb, rfl, rfl, hpa, hpb, i0, i1, hfa.keep ik, hfb.keep ik, ib⟩
          change K _ (set3 x6 bB (.slice tb.TA tb.Tn tb.Tc) (.slice tb.CA tb.Cn tb.Cc) (.slice tb.EA tb.En tb.Ec))
          rw [← hx7]
          have HRES := Lib.hid hres
          clear t0 t1 t2 zf0 zf1 zf2 hx7 hres
          refine hK.out _ _ trivial (fun hHeld => ?_)
          clear hK K
          try simp only [Act.put, List.getElem_toArray, List.getElem_cons_succ, List.getElem_cons_zero, List.setIfInBounds_toArray, List.set_cons_zero, List.set_cons_succ]
          refine wpAnyS_done (by kernel_rfl) ?_ _
          clear hHeld j0 j1 jk jb hfa hfb hkA hkB hpa hpb
          go_wp2_with fail
          go_meet
          case rel => exact HRES.out

      · skip
        go_simp
        obtain ⟨Y0pA, hnx⟩ : ∃ Y, Y = Y0p.alloc (.cells #[.slice none 0 0, .slice none 0 0, .slice none 0 0] 25) := ⟨_, rfl⟩
        have hst : Below Y0p.heap.size Y0p Y0pA := by rw [hnx]; exact (Below.refl _ _).alloc (Nat.le_refl _) _
        have hkA : Blk Y0pA Y0p.heap.size 25 #[.slice none 0 0, .slice none 0 0, .slice none 0 0] := by rw [hnx]; exact Blk.new Y0p _ _
        have hlA : W2.heap.size ≤ Y0p.heap.size := hb.size
        have hfa := hfa.below hst
        have hb := hb.trans (hst.mono hb.size)
        rw [← hnx]

        generalize Y0p.heap.size = bA at *
        refine hK.out _ _ (HS.out _ hb) (fun hHeld => ?_)
        clear hK K hst hnx
        try simp only [Act.put, List.getElem_toArray, List.getElem_cons_succ, List.getElem_cons_zero, List.setIfInBounds_toArray, List.set_cons_zero, List.set_cons_succ]

        refine wpAnyS_ready (rs := [3, 5]) (by kernel_rfl) (by simp) (AllReadyS.cons false (by kernel_rfl) (o := _) rfl (fun K hK => ?_) (AllReadyS.cons false (by kernel_rfl) (o := _) rfl (fun K hK => ?_) AllReadyS.nil))
        · skip
          go_simp
          with_reducible refine (cy _ hb).mono ?_
          rintro en Y0pAq ⟨tb, rfl, hpb, hfb, hst⟩
          (try unfold Tab.V)
          have hfb := hfb.base hb.size
          have hfa := hfa.below hst
          have hkA := blk_below hkA hst
          have hb := hb.trans (hst.mono hb.size)
          refine hK.out _ _ (HS.out _ hb) (fun hHeld => ?_)
          clear hK K hst
          try simp only [Act.put, List.getElem_toArray, List.getElem_cons_succ, List.getElem_cons_zero, List.setIfInBounds_toArray, List.set_cons_zero, List.set_cons_succ]

          refine wpAnyS_ready (rs := [5]) (by kernel_rfl) (by simp) (AllReadyS.cons false (by kernel_rfl) (o := _) rfl (fun K hK => ?_) AllReadyS.nil)
          go_simp
          obtain ⟨Y0pAqB, hnx⟩ : ∃ Y, Y = Y0pAq.alloc (.cells #[.slice none 0 0, .slice none 0 0, .slice none 0 0] 25) := ⟨_, rfl⟩
          have hst : Below Y0pAq.heap.size Y0pAq Y0pAqB := by rw [hnx]; exact (Below.refl _ _).alloc (Nat.le_refl _) _
          have hkB : Blk Y0pAqB Y0pAq.heap.size 25 #[.slice none 0 0, .slice none 0 0, .slice none 0 0] := by rw [hnx]; exact Blk.new Y0pAq _ _
          have hlB : W2.heap.size ≤ Y0pAq.heap.size := hb.size
          have hfa := hfa.below hst
          have hfb := hfb.below hst
          have hkA0 := hkA
          have hkA := blk_below hkA hst
          have hb := hb.trans (hst.mono hb.size)
          rw [← hnx]
          have hAB : bA < Y0pAq.heap.size := hkA0.lt
          generalize Y0pAq.heap.size = bB at *
          refine hK.out _ _ (HS.out _ hb) (fun hHeld => ?_)
          clear hK K hst hnx
          try simp only [Act.put, List.getElem_toArray, List.getElem_cons_succ, List.getElem_cons_zero, List.setIfInBounds_toArray, List.set_cons_zero, List.set_cons_succ]

          generalize Y0pAqB = Y at *
          have hne : bA ≠ bB := by omega
          obtain ⟨⟨t0, t1, t2⟩, zf⟩ := blk_cells3 hkA
          have zf0 := zf 0
          have zf1 := zf 1
          have zf2 := zf 2
          clear zf
          refine wpAnyS_ready (rs := [6]) (by kernel_rfl) (by simp) (AllReadyS.cons false (by kernel_rfl) (o := _) rfl (fun K hK => ?_) AllReadyS.nil)
          go_simp
          obtain ⟨x6, hx6⟩ : ∃ x6, x6 = set3 Y bA (.slice ta.TA ta.Tn ta.Tc) (.slice ta.CA ta.Cn ta.Cc) (.slice ta.EA ta.En ta.Ec) := ⟨_, rfl⟩
          have j0 := set3_blk hkA (.slice ta.TA ta.Tn ta.Tc) (.slice ta.CA ta.Cn ta.Cc) (.slice ta.EA ta.En ta.Ec)
          have j1 := set3_far (g := bA) hkB (fun e => hne e.symm) (.slice ta.TA ta.Tn ta.Tc) (.slice ta.CA ta.Cn ta.Cc) (.slice ta.EA ta.En ta.Ec)
          have jk := set3_keep hkA (.slice ta.TA ta.Tn ta.Tc) (.slice ta.CA ta.Cn ta.Cc) (.slice ta.EA ta.En ta.Ec)
          have jb := hb.trans (set3_below (W := Y) (B := W2.heap.size) (g := bA) (by omega) (.slice ta.TA ta.Tn ta.Tc) (.slice ta.CA ta.Cn ta.Cc) (.slice ta.EA ta.En ta.Ec))
          rw [← hx6] at j0 j1 jk jb
          change K _ (set3 Y bA (.slice ta.TA ta.Tn ta.Tc) (.slice ta.CA ta.Cn ta.Cc) (.slice ta.EA ta.En ta.Ec))
          rw [← hx6]
          clear t0 t1 t2 zf0 zf1 zf2 hx6
          obtain ⟨⟨t0, t1, t2⟩, zf⟩ := blk_cells3 j1
          have zf0 := zf 0
          have zf1 := zf 1
          have zf2 := zf 2
          clear zf
          refine hK.out _ _ (HS.out _ jb) (fun hHeld => ?_)
          clear hK K
          try simp only [Act.put, List.getElem_toArray, List.getElem_cons_succ, List.getElem_cons_zero, List.setIfInBounds_toArray, List.set_cons_zero, List.set_cons_succ]
          refine wpAnyS_ready (rs := [7]) (by kernel_rfl) (by simp) (AllReadyS.cons true (by kernel_rfl) (o := _) rfl (fun K hK => ?_) AllReadyS.nil)
          go_simp
          obtain ⟨x7, hx7⟩ : ∃ x7, x7 = set3 x6 bB (.slice tb.TA tb.Tn tb.Tc) (.slice tb.CA tb.Cn tb.Cc) (.slice tb.EA tb.En tb.Ec) := ⟨_, rfl⟩
          have hres : OwnAB W2 (ownQ x.p) (ownQ y.p) (.pointer (some ⟨bA, 0, none⟩)) (.pointer (some ⟨bB, 0, none⟩)) x7 := by
            have ik := jk.trans (set3_keep j1 (.slice tb.TA tb.Tn tb.Tc) (.slice tb.CA tb.Cn tb.Cc) (.slice tb.EA tb.En tb.Ec))
            have ib := jb.trans (set3_below (W := x6) (B := W2.heap.size) (g := bB) (by omega) (.slice tb.TA tb.Tn tb.Tc) (.slice tb.CA tb.Cn tb.Cc) (.slice tb.EA tb.En tb.Ec))
            have i0 := set3_far (g := bB) j0 hne (.slice tb.TA tb.Tn tb.Tc) (.slice tb.CA tb.Cn tb.Cc) (.slice tb.EA tb.En tb.Ec)
            have i1 := set3_blk j1 (.slice tb.TA tb.Tn tb.Tc) (.slice tb.CA tb.Cn tb.Cc) (.slice tb.EA tb.En tb.Ec)
            rw [← hx7] at ik ib i0 i1
            exact ⟨bA, bB, ta, tb, rfl, rfl, hpa, hpb, i0, i1, hfa.keep ik, hfb.keep ik, ib⟩
          change K _ (set3 x6 bB (.slice tb.TA tb.Tn tb.Tc) (.slice tb.CA tb.Cn tb.Cc) (.slice tb.EA tb.En tb.Ec))
          rw [← hx7]
          have HRES := Lib.hid hres
          clear t0 t1 t2 zf0 zf1 zf2 hx7 hres
          refine hK.out _ _ trivial (fun hHeld => ?_)
          clear hK K
          try simp only [Act.put, List.getElem_toArray, List.getElem_cons_succ, List.getElem_cons_zero, List.setIfInBounds_toArray, List.set_cons_zero, List.set_cons_succ]
          refine wpAnyS_done (by kernel_rfl) ?_ _
          clear hHeld j0 j1 jk jb hfa hfb hkA hkB hpa hpb
          go_wp2_with fail
          go_meet
          case rel => exact HRES.out

        · skip
          go_simp
          obtain ⟨Y0pAB, hnx⟩ : ∃ Y, Y = Y0pA.alloc (.cells #[.slice none 0 0, .slice none 0 0, .slice none 0 0] 25) := ⟨_, rfl⟩
          have hst : Below Y0pA.heap.size Y0pA Y0pAB := by rw [hnx]; exact (Below.refl _ _).alloc (Nat.le_refl _) _
          have hkB : Blk Y0pAB Y0pA.heap.size 25 #[.slice none 0 0, .slice none 0 0, .slice none 0 0] := by rw [hnx]; exact Blk.new Y0pA _ _
          have hlB : W2.heap.size ≤ Y0pA.heap.size := hb.size
          have hfa := hfa.below hst
          have hkA0 := hkA
          have hkA := blk_below hkA hst
          have hb := hb.trans (hst.mono hb.size)
          rw [← hnx]
          have hAB : bA < Y0pA.heap.size := hkA0.lt
          generalize Y0pA.heap.size = bB at *
          refine hK.out _ _ (HS.out _ hb) (fun hHeld => ?_)
          clear hK K hst hnx
          try simp only [Act.put, List.getElem_toArray, List.getElem_cons_succ, List.getElem_cons_zero, List.setIfInBounds_toArray, List.set_cons_zero, List.set_cons_succ]

          refine wpAnyS_ready (rs := [3]) (by kernel_rfl) (by simp) (AllReadyS.cons false (by kernel_rfl) (o := _) rfl (fun K hK => ?_) AllReadyS.nil)
          go_simp
          with_reducible refine (cy _ hb).mono ?_
          rintro en Y0pABq ⟨tb, rfl, hpb, hfb, hst⟩
          (try unfold Tab.V)
          have hfb := hfb.base hb.size
          have hfa := hfa.below hst
          have hkA := blk_below hkA hst
          have hkB := blk_below hkB hst
          have hb := hb.trans (hst.mono hb.size)
          refine hK.out _ _ (HS.out _ hb) (fun hHeld => ?_)
          clear hK K hst
          try simp only [Act.put, List.getElem_toArray, List.getElem_cons_succ, List.getElem_cons_zero, List.setIfInBounds_toArray, List.set_cons_zero, List.set_cons_succ]

          generalize Y0pABq = Y at *
          have hne : bA ≠ bB := by omega
          obtain ⟨⟨t0, t1, t2⟩, zf⟩ := blk_cells3 hkA
          have zf0 := zf 0
          have zf1 := zf 1
          have zf2 := zf 2
          clear zf
          refine wpAnyS_ready (rs := [6]) (by kernel_rfl) (by simp) (AllReadyS.cons false (by kernel_rfl) (o := _) rfl (fun K hK => ?_) AllReadyS.nil)
          go_simp
          obtain ⟨x6, hx6⟩ : ∃ x6, x6 = set3 Y bA (.slice ta.TA ta.Tn ta.Tc) (.slice ta.CA ta.Cn ta.Cc) (.slice ta.EA ta.En ta.Ec) := ⟨_, rfl⟩
          have j0 := set3_blk hkA (.slice ta.TA ta.Tn ta.Tc) (.slice ta.CA ta.Cn ta.Cc) (.slice ta.EA ta.En ta.Ec)
          have j1 := set3_far (g := bA) hkB (fun e => hne e.symm) (.slice ta.TA ta.Tn ta.Tc) (.slice ta.CA ta.Cn ta.Cc) (.slice ta.EA ta.En ta.Ec)
          have jk := set3_keep hkA (.slice ta.TA ta.Tn ta.Tc) (.slice ta.CA ta.Cn ta.Cc) (.slice ta.EA ta.En ta.Ec)
          have jb := hb.trans (set3_below (W := Y) (B := W2.heap.size) (g := bA) (by omega) (.slice ta.TA ta.Tn ta.Tc) (.slice ta.CA ta.Cn ta.Cc) (.slice ta.EA ta.En ta.Ec))
          rw [← hx6] at j0 j1 jk jb
          change K _ (set3 Y bA (.slice ta.TA ta.Tn ta.Tc) (.slice ta.CA ta.Cn ta.Cc) (.slice ta.EA ta.En ta.Ec))
          rw [← hx6]
          clear t0 t1 t2 zf0 zf1 zf2 hx6
          obtain ⟨⟨t0, t1, t2⟩, zf⟩ := blk_cells3 j1
          have zf0 := zf 0
          have zf1 := zf 1
          have zf2 := zf 2
          clear zf
          refine hK.out _ _ (HS.out _ jb) (fun hHeld => ?_)
          clear hK K
          try simp only [Act.put, List.getElem_toArray, List.getElem_cons_succ, List.getElem_cons_zero, List.setIfInBounds_toArray, List.set_cons_zero, List.set_cons_succ]
          refine wpAnyS_ready (rs := [7]) (by kernel_rfl) (by simp) (AllReadyS.cons true (by kernel_rfl) (o := _) rfl (fun K hK => ?_) AllReadyS.nil)
          go_simp
          obtain ⟨x7, hx7⟩ : ∃ x7, x7 = set3 x6 bB (.slice tb.TA tb.Tn tb.Tc) (.slice tb.CA tb.Cn tb.Cc) (.slice tb.EA tb.En tb.Ec) := ⟨_, rfl⟩
          have hres : OwnAB W2 (ownQ x.p) (ownQ y.p) (.pointer (some ⟨bA, 0, none⟩)) (.pointer (some ⟨bB, 0, none⟩)) x7 := by
            have ik := jk.trans (set3_keep j1 (.slice tb.TA tb.Tn tb.Tc) (.slice tb.CA tb.Cn tb.Cc) (.slice tb.EA tb.En tb.Ec))
            have ib := jb.trans (set3_below (W := x6) (B := W2.heap.size) (g := bB) (by omega) (.slice tb.TA tb.Tn tb.Tc) (.slice tb.CA tb.Cn tb.Cc) (.slice tb.EA tb.En tb.Ec))
            have i0 := set3_far (g := bB) j0 hne (.slice tb.TA tb.Tn tb.Tc) (.slice tb.CA tb.Cn tb.Cc) (.slice tb.EA tb.En tb.Ec)
            have i1 := set3_blk j1 (.slice tb.TA tb.Tn tb.Tc) (.slice tb.CA tb.Cn tb.Cc) (.slice tb.EA tb.En tb.Ec)
            rw [← hx7] at ik ib i0 i1
            exact ⟨bA, bB, ta, tb, rfl, rfl, hpa, hpb, i0, i1, hfa.keep ik, hfb.keep ik, ib⟩
          change K _ (set3 x6 bB (.slice tb.TA tb.Tn tb.Tc) (.slice tb.CA tb.Cn tb.Cc) (.slice tb.EA tb.En tb.Ec))
          rw [← hx7]
          have HRES := Lib.hid hres
          clear t0 t1 t2 zf0 zf1 zf2 hx7 hres
          refine hK.out _ _ trivial (fun hHeld => ?_)
          clear hK K
          try simp only [Act.put, List.getElem_toArray, List.getElem_cons_succ, List.getElem_cons_zero, List.setIfInBounds_toArray, List.set_cons_zero, List.set_cons_succ]
          refine wpAnyS_done (by kernel_rfl) ?_ _
          clear hHeld j0 j1 jk jb hfa hfb hkA hkB hpa hpb
          go_wp2_with fail
          go_meet
          case rel => exact HRES.out

      · skip
        go_simp
        obtain ⟨Y0pB, hnx⟩ : ∃ Y, Y = Y0p.alloc (.cells #[.slice none 0 0, .slice none 0 0, .slice none 0 0] 25) := ⟨_, rfl⟩
        have hst : Below Y0p.heap.size Y0p Y0pB := by rw [hnx]; exact (Below.refl _ _).alloc (Nat.le_refl _) _
        have hkB : Blk Y0pB Y0p.heap.size 25 #[.slice none 0 0, .slice none 0 0, .slice none 0 0] := by rw [hnx]; exact Blk.new Y0p _ _
        have hlB : W2.heap.size ≤ Y0p.heap.size := hb.size
        have hfa := hfa.below hst
        have hb := hb.trans (hst.mono hb.size)
        rw [← hnx]

        generalize Y0p.heap.size = bB at *
        refine hK.out _ _ (HS.out _ hb) (fun hHeld => ?_)
        clear hK K hst hnx
        try simp only [Act.put, List.getElem_toArray, List.getElem_cons_succ, List.getElem_cons_zero, List.setIfInBounds_toArray, List.set_cons_zero, List.set_cons_succ]

        refine wpAnyS_ready (rs := [3, 4]) (by kernel_rfl) (by simp) (AllReadyS.cons false (by kernel_rfl) (o := _) rfl (fun K hK => ?_) (AllReadyS.cons false (by kernel_rfl) (o := _) rfl (fun K hK => ?_) AllReadyS.nil))
        · skip
          go_simp
          with_reducible refine (cy _ hb).mono ?_
          rintro en Y0pBq ⟨tb, rfl, hpb, hfb, hst⟩
          (try unfold Tab.V)
          have hfb := hfb.base hb.size
          have hfa := hfa.below hst
          have hkB := blk_below hkB hst
          have hb := hb.trans (hst.mono hb.size)
          refine hK.out _ _ (HS.out _ hb) (fun hHeld => ?_)
          clear hK K hst
          try simp only [Act.put, List.getElem_toArray, List.getElem_cons_succ, List.getElem_cons_zero, List.setIfInBounds_toArray, List.set_cons_zero, List.set_cons_succ]

          refine wpAnyS_ready (rs := [4]) (by kernel_rfl) (by simp) (AllReadyS.cons false (by kernel_rfl) (o := _) rfl (fun K hK => ?_) AllReadyS.nil)
          go_simp
          obtain ⟨Y0pBqA, hnx⟩ : ∃ Y, Y = Y0pBq.alloc (.cells #[.slice none 0 0, .slice none 0 0, .slice none 0 0] 25) := ⟨_, rfl⟩
          have hst : Below Y0pBq.heap.size Y0pBq Y0pBqA := by rw [hnx]; exact (Below.refl _ _).alloc (Nat.le_refl _) _
          have hkA : Blk Y0pBqA Y0pBq.heap.size 25 #[.slice none 0 0, .slice none 0 0, .slice none 0 0] := by rw [hnx]; exact Blk.new Y0pBq _ _
          have hlA : W2.heap.size ≤ Y0pBq.heap.size := hb.size
          have hfa := hfa.below hst
          have hfb := hfb.below hst
          have hkB0 := hkB
          have hkB := blk_below hkB hst
          have hb := hb.trans (hst.mono hb.size)
          rw [← hnx]
          have hAB : bB < Y0pBq.heap.size := hkB0.lt
          generalize Y0pBq.heap.size = bA at *
          refine hK.out _ _ (HS.out _ hb) (fun hHeld => ?_)
          clear hK K hst hnx
          try simp only [Act.put, List.getElem_toArray, List.getElem_cons_succ, List.getElem_cons_zero, List.setIfInBounds_toArray, List.set_cons_zero, List.set_cons_succ]

          generalize Y0pBqA = Y at *
          have hne : bA ≠ bB := by omega
          obtain ⟨⟨t0, t1, t2⟩, zf⟩ := blk_cells3 hkA
          have zf0 := zf 0
          have zf1 := zf 1
          have zf2 := zf 2
          clear zf
          refine wpAnyS_ready (rs := [6]) (by kernel_rfl) (by simp) (AllReadyS.cons false (by kernel_rfl) (o := _) rfl (fun K hK => ?_) AllReadyS.nil)
          go_simp
          obtain ⟨x6, hx6⟩ : ∃ x6, x6 = set3 Y bA (.slice ta.TA ta.Tn ta.Tc) (.slice ta.CA ta.Cn ta.Cc) (.slice ta.EA ta.En ta.Ec) := ⟨_, rfl⟩
          have j0 := set3_blk hkA (.slice ta.TA ta.Tn ta.Tc) (.slice ta.CA ta.Cn ta.Cc) (.slice ta.EA ta.En ta.Ec)
          have j1 := set3_far (g := bA) hkB (fun e => hne e.symm) (.slice ta.TA ta.Tn ta.Tc) (.slice ta.CA ta.Cn ta.Cc) (.slice ta.EA ta.En ta.Ec)
          have jk := set3_keep hkA (.slice ta.TA ta.Tn ta.Tc) (.slice ta.CA ta.Cn ta.Cc) (.slice ta.EA ta.En ta.Ec)
          have jb := hb.trans (set3_below (W := Y) (B := W2.heap.size) (g := bA) (by omega) (.slice ta.TA ta.Tn ta.Tc) (.slice ta.CA ta.Cn ta.Cc) (.slice ta.EA ta.En ta.Ec))
          rw [← hx6] at j0 j1 jk jb
          change K _ (set3 Y bA (.slice ta.TA ta.Tn ta.Tc) (.slice ta.CA ta.Cn ta.Cc) (.slice ta.EA ta.En ta.Ec))
          rw [← hx6]
          clear t0 t1 t2 zf0 zf1 zf2 hx6
          obtain ⟨⟨t0, t1, t2⟩, zf⟩ := blk_cells3 j1
          have zf0 := zf 0
          have zf1 := zf 1
          have zf2 := zf 2
          clear zf
          refine hK.out _ _ (HS.out _ jb) (fun hHeld => ?_)
          clear hK K
          try simp only [Act.put, List.getElem_toArray, List.getElem_cons_succ, List.getElem_cons_zero, List.setIfInBounds_toArray, List.set_cons_zero, List.set_cons_succ]
          refine wpAnyS_ready (rs := [7]) (by kernel_rfl) (by simp) (AllReadyS.cons true (by kernel_rfl) (o := _) rfl (fun K hK => ?_) AllReadyS.nil)
          go_simp
          obtain ⟨x7, hx7⟩ : ∃ x7, x7 = set3 x6 bB (.slice tb.TA tb.Tn tb.Tc) (.slice tb.CA tb.Cn tb.Cc) (.slice tb.EA tb.En tb.Ec) := ⟨_, rfl⟩
          have hres : OwnAB W2 (ownQ x.p) (ownQ y.p) (.pointer (some ⟨bA, 0, none⟩)) (.pointer (some ⟨bB, 0, none⟩)) x7 := by
            have ik := jk.trans (set3_keep j1 (.slice tb.TA tb.Tn tb.Tc) (.slice tb.CA tb.Cn tb.Cc) (.slice tb.EA tb.En tb.Ec))
            have ib := jb.trans (set3_below (W := x6) (B := W2.heap.size) (g := bB) (by omega) (.slice tb.TA tb.Tn tb.Tc) (.slice tb.CA tb.Cn tb.Cc) (.slice tb.EA tb.En tb.Ec))
            have i0 := set3_far (g := bB) j0 hne (.slice tb.TA tb.Tn tb.Tc) (.slice tb.CA tb.Cn tb.Cc) (.slice tb.EA tb.En tb.Ec)
            have i1 := set3_blk j1 (.slice tb.TA tb.Tn tb.Tc) (.slice tb.CA tb.Cn tb.Cc) (.slice tb.EA tb.En tb.Ec)
            rw [← hx7] at ik ib i0 i1
            exact ⟨bA, bB, ta, tb, rfl, rfl, hpa, hpb, i0, i1, hfa.keep ik, hfb.keep ik, ib⟩
          change K _ (set3 x6 bB (.slice tb.TA tb.Tn tb.Tc) (.slice tb.CA tb.Cn tb.Cc) (.slice tb.EA tb.En tb.Ec))
          rw [← hx7]
          have HRES := Lib.hid hres
          clear t0 t1 t2 zf0 zf1 zf2 hx7 hres
          refine hK.out _ _ trivial (fun hHeld => ?_)
          clear hK K
          try simp only [Act.put, List.getElem_toArray, List.getElem_cons_succ, List.getElem_cons_zero, List.setIfInBounds_toArray, List.set_cons_zero, List.set_cons_succ]
          refine wpAnyS_done (by kernel_rfl) ?_ _
          clear hHeld j0 j1 jk jb hfa hfb hkA hkB hpa hpb
          go_wp2_with fail
          go_meet
          case rel => exact HRES.out

        · skip
          go_simp
          obtain ⟨Y0pBA, hnx⟩ : ∃ Y, Y = Y0pB.alloc (.cells #[.slice none 0 0, .slice none 0 0, .slice none 0 0] 25) := ⟨_, rfl⟩
          have hst : Below Y0pB.heap.size Y0pB Y0pBA := by rw [hnx]; exact (Below.refl _ _).alloc (Nat.le_refl _) _
          have hkA : Blk Y0pBA Y0pB.heap.size 25 #[.slice none 0 0, .slice none 0 0, .slice none 0 0] := by rw [hnx]; exact Blk.new Y0pB _ _
          have hlA : W2.heap.size ≤ Y0pB.heap.size := hb.size
          have hfa := hfa.below hst
          have hkB0 := hkB
          have hkB := blk_below hkB hst
          have hb := hb.trans (hst.mono hb.size)
          rw [← hnx]
          have hAB : bB < Y0pB.heap.size := hkB0.lt
          generalize Y0pB.heap.size = bA at *
          refine hK.out _ _ (HS.out _ hb) (fun hHeld => ?_)
          clear hK K hst hnx
          try simp only [Act.put, List.getElem_toArray, List.getElem_cons_succ, List.getElem_cons_zero, List.setIfInBounds_toArray, List.set_cons_zero, List.set_cons_succ]

          refine wpAnyS_ready (rs := [3]) (by kernel_rfl) (by simp) (AllReadyS.cons false (by kernel_rfl) (o := _) rfl (fun K hK => ?_) AllReadyS.nil)
          go_simp
          with_reducible refine (cy _ hb).mono ?_
          rintro en Y0pBAq ⟨tb, rfl, hpb, hfb, hst⟩
          (try unfold Tab.V)
          have hfb := hfb.base hb.size
          have hfa := hfa.below hst
          have hkA := blk_below hkA hst
          have hkB := blk_below hkB hst
          have hb := hb.trans (hst.mono hb.size)
          refine hK.out _ _ (HS.out _ hb) (fun hHeld => ?_)
          clear hK K hst
          try simp only [Act.put, List.getElem_toArray, List.getElem_cons_succ, List.getElem_cons_zero, List.setIfInBounds_toArray, List.set_cons_zero, List.set_cons_succ]

          generalize Y0pBAq = Y at *
          have hne : bA ≠ bB := by omega
          obtain ⟨⟨t0, t1, t2⟩, zf⟩ := blk_cells3 hkA
          have zf0 := zf 0
          have zf1 := zf 1
          have zf2 := zf 2
          clear zf
          refine wpAnyS_ready (rs := [6]) (by kernel_rfl) (by simp) (AllReadyS.cons false (by kernel_rfl) (o := _) rfl (fun K hK => ?_) AllReadyS.nil)
          go_simp
          obtain ⟨x6, hx6⟩ : ∃ x6, x6 = set3 Y bA (.slice ta.TA ta.Tn ta.Tc) (.slice ta.CA ta.Cn ta.Cc) (.slice ta.EA ta.En ta.Ec) := ⟨_, rfl⟩
          have j0 := set3_blk hkA (.slice ta.TA ta.Tn ta.Tc) (.slice ta.CA ta.Cn ta.Cc) (.slice ta.EA ta.En ta.Ec)
          have j1 := set3_far (g := bA) hkB (fun e => hne e.symm) (.slice ta.TA ta.Tn ta.Tc) (.slice ta.CA ta.Cn ta.Cc) (.slice ta.EA ta.En ta.Ec)
          have jk := set3_keep hkA (.slice ta.TA ta.Tn ta.Tc) (.slice ta.CA ta.Cn ta.Cc) (.slice ta.EA ta.En ta.Ec)
          have jb := hb.trans (set3_below (W := Y) (B := W2.heap.size) (g := bA) (by omega) (.slice ta.TA ta.Tn ta.Tc) (.slice ta.CA ta.Cn ta.Cc) (.slice ta.EA ta.En ta.Ec))
          rw [← hx6] at j0 j1 jk jb
          change K _ (set3 Y bA (.slice ta.TA ta.Tn ta.Tc) (.slice ta.CA ta.Cn ta.Cc) (.slice ta.EA ta.En ta.Ec))
          rw [← hx6]
          clear t0 t1 t2 zf0 zf1 zf2 hx6
          obtain ⟨⟨t0, t1, t2⟩, zf⟩ := blk_cells3 j1
          have zf0 := zf 0
          have zf1 := zf 1
          have zf2 := zf 2
          clear zf
          refine hK.out _ _ (HS.out _ jb) (fun hHeld => ?_)
          clear hK K
          try simp only [Act.put, List.getElem_toArray, List.getElem_cons_succ, List.getElem_cons_zero, List.setIfInBounds_toArray, List.set_cons_zero, List.set_cons_succ]
          refine wpAnyS_ready (rs := [7]) (by kernel_rfl) (by simp) (AllReadyS.cons true (by kernel_rfl) (o := _) rfl (fun K hK => ?_) AllReadyS.nil)
          go_simp
          obtain ⟨x7, hx7⟩ : ∃ x7, x7 = set3 x6 bB (.slice tb.TA tb.Tn tb.Tc) (.slice tb.CA tb.Cn tb.Cc) (.slice tb.EA tb.En tb.Ec) := ⟨_, rfl⟩
          have hres : OwnAB W2 (ownQ x.p) (ownQ y.p) (.pointer (some ⟨bA, 0, none⟩)) (.pointer (some ⟨bB, 0, none⟩)) x7 := by
            have ik := jk.trans (set3_keep j1 (.slice tb.TA tb.Tn tb.Tc) (.slice tb.CA tb.Cn tb.Cc) (.slice tb.EA tb.En tb.Ec))
            have ib := jb.trans (set3_below (W := x6) (B := W2.heap.size) (g := bB) (by omega) (.slice tb.TA tb.Tn tb.Tc) (.slice tb.CA tb.Cn tb.Cc) (.slice tb.EA tb.En tb.Ec))
            have i0 := set3_far (g := bB) j0 hne (.slice tb.TA tb.Tn tb.Tc) (.slice tb.CA tb.Cn tb.Cc) (.slice tb.EA tb.En tb.Ec)
            have i1 := set3_blk j1 (.slice tb.TA tb.Tn tb.Tc) (.slice tb.CA tb.Cn tb.Cc) (.slice tb.EA tb.En tb.Ec)
            rw [← hx7] at ik ib i0 i1
            exact ⟨bA, bB, ta, tb, rfl, rfl, hpa, hpb, i0, i1, hfa.keep ik, hfb.keep ik, ib⟩
          change K _ (set3 x6 bB (.slice tb.TA tb.Tn tb.Tc) (.slice tb.CA tb.Cn tb.Cc) (.slice tb.EA tb.En tb.Ec))
          rw [← hx7]
          have HRES := Lib.hid hres
          clear t0 t1 t2 zf0 zf1 zf2 hx7 hres
          refine hK.out _ _ trivial (fun hHeld => ?_)
          clear hK K
          try simp only [Act.put, List.getElem_toArray, List.getElem_cons_succ, List.getElem_cons_zero, List.setIfInBounds_toArray, List.set_cons_zero, List.set_cons_succ]
          refine wpAnyS_done (by kernel_rfl) ?_ _
          clear hHeld j0 j1 jk jb hfa hfb hkA hkB hpa hpb
          go_wp2_with fail
          go_meet
          case rel => exact HRES.out

    · skip
      go_simp
      obtain ⟨Y0A, hnx⟩ : ∃ Y, Y = Y0.alloc (.cells #[.slice none 0 0, .slice none 0 0, .slice none 0 0] 25) := ⟨_, rfl⟩
      have hst : Below Y0.heap.size Y0 Y0A := by rw [hnx]; exact (Below.refl _ _).alloc (Nat.le_refl _) _
      have hkA : Blk Y0A Y0.heap.size 25 #[.slice none 0 0, .slice none 0 0, .slice none 0 0] := by rw [hnx]; exact Blk.new Y0 _ _
      have hlA : W2.heap.size ≤ Y0.heap.size := hb.size
      have hb := hb.trans (hst.mono hb.size)
      rw [← hnx]

      generalize Y0.heap.size = bA at *
      refine hK.out _ _ (HS.out _ hb) (fun hHeld => ?_)
      clear hK K hst hnx
      try simp only [Act.put, List.getElem_toArray, List.getElem_cons_succ, List.getElem_cons_zero, List.setIfInBounds_toArray, List.set_cons_zero, List.set_cons_succ]

      refine wpAnyS_ready (rs := [1, 5]) (by kernel_rfl) (by simp) (AllReadyS.cons false (by kernel_rfl) (o := _) rfl (fun K hK => ?_) (AllReadyS.cons false (by kernel_rfl) (o := _) rfl (fun K hK => ?_) AllReadyS.nil))
      · skip
        go_simp
        with_reducible refine (cx _ hb).mono ?_
        rintro en Y0Ap ⟨ta, rfl, hpa, hfa, hst⟩
        (try unfold Tab.V)
        have hfa := hfa.base hb.size
        have hkA := blk_below hkA hst
        have hb := hb.trans (hst.mono hb.size)
        refine hK.out _ _ (HS.out _ hb) (fun hHeld => ?_)
        clear hK K hst
        try simp only [Act.put, List.getElem_toArray, List.getElem_cons_succ, List.getElem_cons_zero, List.setIfInBounds_toArray, List.set_cons_zero, List.set_cons_succ]

        refine wpAnyS_ready (rs := [3, 5]) (by kernel_rfl) (by simp) (AllReadyS.cons false (by kernel_rfl) (o := _) rfl (fun K hK => ?_) (AllReadyS.cons false (by kernel_rfl) (o := _) rfl (fun K hK => ?_) AllReadyS.nil))
        · skip
          go_simp
          with_reducible refine (cy _ hb).mono ?_
          rintro en Y0Apq ⟨tb, rfl, hpb, hfb, hst⟩
          (try unfold Tab.V)
          have hfb := hfb.base hb.size
          have hfa := hfa.below hst
          have hkA := blk_below hkA hst
          have hb := hb.trans (hst.mono hb.size)
          refine hK.out _ _ (HS.out _ hb) (fun hHeld => ?_)
          clear hK K hst
          try simp only [Act.put, List.getElem_toArray, List.getElem_cons_succ, List.getElem_cons_zero, List.setIfInBounds_toArray, List.set_cons_zero, List.set_cons_succ]

          refine wpAnyS_ready (rs := [5]) (by kernel_rfl) (by simp) (AllReadyS.cons false (by kernel_rfl) (o := _) rfl (fun K hK => ?_) AllReadyS.nil)
          go_simp
          obtain ⟨Y0ApqB, hnx⟩ : ∃ Y, Y = Y0Apq.alloc (.cells #[.slice none 0 0, .slice none 0 0, .slice none 0 0] 25) := ⟨_, rfl⟩
          have hst : Below Y0Apq.heap.size Y0Apq Y0ApqB := by rw [hnx]; exact (Below.refl _ _).alloc (Nat.le_refl _) _
          have hkB : Blk Y0ApqB Y0Apq.heap.size 25 #[.slice none 0 0, .slice none 0 0, .slice none 0 0] := by rw [hnx]; exact Blk.new Y0Apq _ _
          have hlB : W2.heap.size ≤ Y0Apq.heap.size := hb.size
          have hfa := hfa.below hst
          have hfb := hfb.below hst
          have hkA0 := hkA
          have hkA := blk_below hkA hst
          have hb := hb.trans (hst.mono hb.size)
          rw [← hnx]
          have hAB : bA < Y0Apq.heap.size := hkA0.lt
          generalize Y0Apq.heap.size = bB at *
          refine hK.out _ _ (HS.out _ hb) (fun hHeld => ?_)
          clear hK K hst hnx
          try simp only [Act.put, List.getElem_toArray, List.getElem_cons_succ, List.getElem_cons_zero, List.setIfInBounds_toArray, List.set_cons_zero, List.set_cons_succ]

          generalize Y0ApqB = Y at *
          have hne : bA ≠ bB := by omega
          obtain ⟨⟨t0, t1, t2⟩, zf⟩ := blk_cells3 hkA
          have zf0 := zf 0
          have zf1 := zf 1
          have zf2 := zf 2
          clear zf
          refine wpAnyS_ready (rs := [6]) (by kernel_rfl) (by simp) (AllReadyS.cons false (by kernel_rfl) (o := _) rfl (fun K hK => ?_) AllReadyS.nil)
          go_simp
          obtain ⟨x6, hx6⟩ : ∃ x6, x6 = set3 Y bA (.slice ta.TA ta.Tn ta.Tc) (.slice ta.CA ta.Cn ta.Cc) (.slice ta.EA ta.En ta.Ec) := ⟨_, rfl⟩
          have j0 := set3_blk hkA (.slice ta.TA ta.Tn ta.Tc) (.slice ta.CA ta.Cn ta.Cc) (.slice ta.EA ta.En ta.Ec)
          have j1 := set3_far (g := bA) hkB (fun e => hne e.symm) (.slice ta.TA ta.Tn ta.Tc) (.slice ta.CA ta.Cn ta.Cc) (.slice ta.EA ta.En ta.Ec)
          have jk := set3_keep hkA (.slice ta.TA ta.Tn ta.Tc) (.slice ta.CA ta.Cn ta.Cc) (.slice ta.EA ta.En ta.Ec)
          have jb := hb.trans (set3_below (W := Y) (B := W2.heap.size) (g := bA) (by omega) (.slice ta.TA ta.Tn ta.Tc) (.slice ta.CA ta.Cn ta.Cc) (.slice ta.EA ta.En ta.Ec))
          rw [← hx6] at j0 j1 jk jb
          change K _ (set3 Y bA (.slice ta.TA ta.Tn ta.Tc) (.slice ta.CA ta.Cn ta.Cc) (.slice ta.EA ta.En ta.Ec))
          rw [← hx6]
          clear t0 t1 t2 zf0 zf1 zf2 hx6
          obtain ⟨⟨t0, t1, t2⟩, zf⟩ := blk_cells3 j1
          have zf0 := zf 0
          have zf1 := zf 1
          have zf2 := zf 2
          clear zf
          refine hK.out _ _ (HS.out _ jb) (fun hHeld => ?_)
          clear hK K
          try simp only [Act.put, List.getElem_toArray, List.getElem_cons_succ, List.getElem_cons_zero, List.setIfInBounds_toArray, List.set_cons_zero, List.set_cons_succ]
          refine wpAnyS_ready (rs := [7]) (by kernel_rfl) (by simp) (AllReadyS.cons true (by kernel_rfl) (o := _) rfl (fun K hK => ?_) AllReadyS.nil)
          go_simp
          obtain ⟨x7, hx7⟩ : ∃ x7, x7 = set3 x6 bB (.slice tb.TA tb.Tn tb.Tc) (.slice tb.CA tb.Cn tb.Cc) (.slice tb.EA tb.En tb.Ec) := ⟨_, rfl⟩
          have hres : OwnAB W2 (ownQ x.p) (ownQ y.p) (.pointer (some ⟨bA, 0, none⟩)) (.pointer (some ⟨bB, 0, none⟩)) x7 := by
            have ik := jk.trans (set3_keep j1 (.slice tb.TA tb.Tn tb.Tc) (.slice tb.CA tb.Cn tb.Cc) (.slice tb.EA tb.En tb.Ec))
            have ib := jb.trans (set3_below (W := x6) (B := W2.heap.size) (g := bB) (by omega) (.slice tb.TA tb.Tn tb.Tc) (.slice tb.CA tb.Cn tb.Cc) (.slice tb.EA tb.En tb.Ec))
            have i0 := set3_far (g := bB) j0 hne (.slice tb.TA tb.Tn tb.Tc) (.slice tb.CA tb.Cn tb.Cc) (.slice tb.EA tb.En tb.Ec)
            have i1 := set3_blk j1 (.slice tb.TA tb.Tn tb.Tc) (.slice tb.CA tb.Cn tb.Cc) (.slice tb.EA tb.En tb.Ec)
            rw [← hx7] at ik ib i0 i1
            exact ⟨bA, bB, ta, tb, rfl, rfl, hpa, hpb, i0, i1, hfa.keep ik, hfb.keep ik, ib⟩
          change K _ (set3 x6 bB (.slice tb.TA tb.Tn tb.Tc) (.slice tb.CA tb.Cn tb.Cc) (.slice tb.EA tb.En tb.Ec))
          rw [← hx7]
          have HRES := Lib.hid hres
          clear t0 t1 t2 zf0 zf1 zf2 hx7 hres
          refine hK.out _ _ trivial (fun hHeld => ?_)
          clear hK K
          try simp only [Act.put, List.getElem_toArray, List.getElem_cons_succ, List.getElem_cons_zero, List.setIfInBounds_toArray, List.set_cons_zero, List.set_cons_succ]
          refine wpAnyS_done (by kernel_rfl) ?_ _
          clear hHeld j0 j1 jk jb hfa hfb hkA hkB hpa hpb
          go_wp2_with fail
          go_meet
          case rel => exact HRES.out

        · skip
          go_simp
          obtain ⟨Y0ApB, hnx⟩ : ∃ Y, Y = Y0Ap.alloc (.cells #[.slice none 0 0, .slice none 0 0, .slice none 0 0] 25) := ⟨_, rfl⟩
          have hst : Below Y0Ap.heap.size Y0Ap Y0ApB := by rw [hnx]; exact (Below.refl _ _).alloc (Nat.le_refl _) _
          have hkB : Blk Y0ApB Y0Ap.heap.size 25 #[.slice none 0 0, .slice none 0 0, .slice none 0 0] := by rw [hnx]; exact Blk.new Y0Ap _ _
          have hlB : W2.heap.size ≤ Y0Ap.heap.size := hb.size
          have hfa := hfa.below hst
          have hkA0 := hkA
          have hkA := blk_below hkA hst
          have hb := hb.trans (hst.mono hb.size)
          rw [← hnx]
          have hAB : bA < Y0Ap.heap.size := hkA0.lt
          generalize Y0Ap.heap.size = bB at *
          refine hK.out _ _ (HS.out _ hb) (fun hHeld => ?_)
          clear hK K hst hnx
          try simp only [Act.put, List.getElem_toArray, List.getElem_cons_succ, List.getElem_cons_zero, List.setIfInBounds_toArray, List.set_cons_zero, List.set_cons_succ]

          refine wpAnyS_ready (rs := [3]) (by kernel_rfl) (by simp) (AllReadyS.cons false (by kernel_rfl) (o := _) rfl (fun K hK => ?_) AllReadyS.nil)
          go_simp
          with_reducible refine (cy _ hb).mono ?_
          rintro en Y0ApBq ⟨tb, rfl, hpb, hfb, hst⟩
          (try unfold Tab.V)
          have hfb := hfb.base hb.size
          have hfa := hfa.below hst
          have hkA := blk_below hkA hst
          have hkB := blk_below hkB hst
          have hb := hb.trans (hst.mono hb.size)
          refine hK.out _ _ (HS.out _ hb) (fun hHeld => ?_)
          clear hK K hst
          try simp only [Act.put, List.getElem_toArray, List.getElem_cons_succ, List.getElem_cons_zero, List.setIfInBounds_toArray, List.set_cons_zero, List.set_cons_succ]

          generalize Y0ApBq = Y at *
          have hne : bA ≠ bB := by omega
          obtain ⟨⟨t0, t1, t2⟩, zf⟩ := blk_cells3 hkA
          have zf0 := zf 0
          have zf1 := zf 1
          have zf2 := zf 2
          clear zf
          refine wpAnyS_ready (rs := [6]) (by kernel_rfl) (by simp) (AllReadyS.cons false (by kernel_rfl) (o := _) rfl (fun K hK => ?_) AllReadyS.nil)
          go_simp
          obtain ⟨x6, hx6⟩ : ∃ x6, x6 = set3 Y bA (.slice ta.TA ta.Tn ta.Tc) (.slice ta.CA ta.Cn ta.Cc) (.slice ta.EA ta.En ta.Ec) := ⟨_, rfl⟩
          have j0 := set3_blk hkA (.slice ta.TA ta.Tn ta.Tc) (.slice ta.CA ta.Cn ta.Cc) (.slice ta.EA ta.En ta.Ec)
          have j1 := set3_far (g := bA) hkB (fun e => hne e.symm) (.slice ta.TA ta.Tn ta.Tc) (.slice ta.CA ta.Cn ta.Cc) (.slice ta.EA ta.En ta.Ec)
          have jk := set3_keep hkA (.slice ta.TA ta.Tn ta.Tc) (.slice ta.CA ta.Cn ta.Cc) (.slice ta.EA ta.En ta.Ec)
          have jb := hb.trans (set3_below (W := Y) (B := W2.heap.size) (g := bA) (by omega) (.slice ta.TA ta.Tn ta.Tc) (.slice ta.CA ta.Cn ta.Cc) (.slice ta.EA ta.En ta.Ec))
          rw [← hx6] at j0 j1 jk jb
          change K _ (set3 Y bA (.slice ta.TA ta.Tn ta.Tc) (.slice ta.CA ta.Cn ta.Cc) (.slice ta.EA ta.En ta.Ec))
          rw [← hx6]
          clear t0 t1 t2 zf0 zf1 zf2 hx6
          obtain ⟨⟨t0, t1, t2⟩, zf⟩ := blk_cells3 j1
          have zf0 := zf 0
          have zf1 := zf 1
          have zf2 := zf 2
          clear zf
          refine hK.out _ _ (HS.out _ jb) (fun hHeld => ?_)
          clear hK K
          try simp only [Act.put, List.getElem_toArray, List.getElem_cons_succ, List.getElem_cons_zero, List.setIfInBounds_toArray, List.set_cons_zero, List.set_cons_succ]
          refine wpAnyS_ready (rs := [7]) (by kernel_rfl) (by simp) (AllReadyS.cons true (by kernel_rfl) (o := _) rfl (fun K hK => ?_) AllReadyS.nil)
          go_simp
          obtain ⟨x7, hx7⟩ : ∃ x7, x7 = set3 x6 bB (.slice tb.TA tb.Tn tb.Tc) (.slice tb.CA tb.Cn tb.Cc) (.slice tb.EA tb.En tb.Ec) := ⟨_, rfl⟩
          have hres : OwnAB W2 (ownQ x.p) (ownQ y.p) (.pointer (some ⟨bA, 0, none⟩)) (.pointer (some ⟨bB, 0, none⟩)) x7 := by
            have ik := jk.trans (set3_keep j1 (.slice tb.TA tb.Tn tb.Tc) (.slice tb.CA tb.Cn tb.Cc) (.slice tb.EA tb.En tb.Ec))
            have ib := jb.trans (set3_below (W := x6) (B := W2.heap.size) (g := bB) (by omega) (.slice tb.TA tb.Tn tb.Tc) (.slice tb.CA tb.Cn tb.Cc) (.slice tb.EA tb.En tb.Ec))
            have i0 := set3_far (g := bB) j0 hne (.slice tb.TA tb.Tn tb.Tc) (.slice tb.CA tb.Cn tb.Cc) (.slice tb.EA tb.En tb.Ec)
            have i1 := set3_blk j1 (.slice tb.TA tb.Tn tb.Tc) (.slice tb.CA tb.Cn tb.Cc) (.slice tb.EA tb.En tb.Ec)
            rw [← hx7] at ik ib i0 i1
            exact ⟨bA, bB, ta, tb, rfl, rfl, hpa, hpb, i0, i1, hfa.keep ik, hfb.keep ik, ib⟩
          change K _ (set3 x6 bB (.slice tb.TA tb.Tn tb.Tc) (.slice tb.CA tb.Cn tb.Cc) (.slice tb.EA tb.En tb.Ec))
          rw [← hx7]
          have HRES := Lib.hid hres
          clear t0 t1 t2 zf0 zf1 zf2 hx7 hres
          refine hK.out _ _ trivial (fun hHeld => ?_)
          clear hK K
          try simp only [Act.put, List.getElem_toArray, List.getElem_cons_succ, List.getElem_cons_zero, List.setIfInBounds_toArray, List.set_cons_zero, List.set_cons_succ]
          refine wpAnyS_done (by kernel_rfl) ?_ _
          clear hHeld j0 j1 jk jb hfa hfb hkA hkB hpa hpb
          go_wp2_with fail
          go_meet
          case rel => exact HRES.out

      · skip
        go_simp
        obtain ⟨Y0AB, hnx⟩ : ∃ Y, Y = Y0A.alloc (.cells #[.slice none 0 0, .slice none 0 0, .slice none 0 0] 25) := ⟨_, rfl⟩
        have hst : Below Y0A.heap.size Y0A Y0AB := by rw [hnx]; exact (Below.refl _ _).alloc (Nat.le_refl _) _
        have hkB : Blk Y0AB Y0A.heap.size 25 #[.slice none 0 0, .slice none 0 0, .slice none 0 0] := by rw [hnx]; exact Blk.new Y0A _ _
        have hlB : W2.heap.size ≤ Y0A.heap.size := hb.size
        have hkA0 := hkA
        have hkA := blk_below hkA hst
        have hb := hb.trans (hst.mono hb.size)
        rw [← hnx]
        have hAB : bA < Y0A.heap.size := hkA0.lt
        generalize Y0A.heap.size = bB at *
        refine hK.out _ _ (HS.out _ hb) (fun hHeld => ?_)
        clear hK K hst hnx
        try simp only [Act.put, List.getElem_toArray, List.getElem_cons_succ, List.getElem_cons_zero, List.setIfInBounds_toArray, List.set_cons_zero, List.set_cons_succ]

        refine wpAnyS_ready (rs := [1]) (by kernel_rfl) (by simp) (AllReadyS.cons false (by kernel_rfl) (o := _) rfl (fun K hK => ?_) AllReadyS.nil)
        go_simp
        with_reducible refine (cx _ hb).mono ?_
        rintro en Y0ABp ⟨ta, rfl, hpa, hfa, hst⟩
        (try unfold Tab.V)
        have hfa := hfa.base hb.size
        have hkA := blk_below hkA hst
        have hkB := blk_below hkB hst
        have hb := hb.trans (hst.mono hb.size)
        refine hK.out _ _ (HS.out _ hb) (fun hHeld => ?_)
        clear hK K hst
        try simp only [Act.put, List.getElem_toArray, List.getElem_cons_succ, List.getElem_cons_zero, List.setIfInBounds_toArray, List.set_cons_zero, List.set_cons_succ]

        refine wpAnyS_ready (rs := [3]) (by kernel_rfl) (by simp) (AllReadyS.cons false (by kernel_rfl) (o := _) rfl (fun K hK => ?_) AllReadyS.nil)
        go_simp
        with_reducible refine (cy _ hb).mono ?_
        rintro en Y0ABpq ⟨tb, rfl, hpb, hfb, hst⟩
        (try unfold Tab.V)
        have hfb := hfb.base hb.size
        have hfa := hfa.below hst
        have hkA := blk_below hkA hst
        have hkB := blk_below hkB hst
        have hb := hb.trans (hst.mono hb.size)
        refine hK.out _ _ (HS.out _ hb) (fun hHeld => ?_)
        clear hK K hst
        try simp only [Act.put, List.getElem_toArray, List.getElem_cons_succ, List.getElem_cons_zero, List.setIfInBounds_toArray, List.set_cons_zero, List.set_cons_succ]

        generalize Y0ABpq = Y at *
        have hne : bA ≠ bB := by omega
        obtain ⟨⟨t0, t1, t2⟩, zf⟩ := blk_cells3 hkA
        have zf0 := zf 0
        have zf1 := zf 1
        have zf2 := zf 2
        clear zf
        refine wpAnyS_ready (rs := [6]) (by kernel_rfl) (by simp) (AllReadyS.cons false (by kernel_rfl) (o := _) rfl (fun K hK => ?_) AllReadyS.nil)
        go_simp
        obtain ⟨x6, hx6⟩ : ∃ x6, x6 = set3 Y bA (.slice ta.TA ta.Tn ta.Tc) (.slice ta.CA ta.Cn ta.Cc) (.slice ta.EA ta.En ta.Ec) := ⟨_, rfl⟩
        have j0 := set3_blk hkA (.slice ta.TA ta.Tn ta.Tc) (.slice ta.CA ta.Cn ta.Cc) (.slice ta.EA ta.En ta.Ec)
        have j1 := set3_far (g := bA) hkB (fun e => hne e.symm) (.slice ta.TA ta.Tn ta.Tc) (.slice ta.CA ta.Cn ta.Cc) (.slice ta.EA ta.En ta.Ec)
        have jk := set3_keep hkA (.slice ta.TA ta.Tn ta.Tc) (.slice ta.CA ta.Cn ta.Cc) (.slice ta.EA ta.En ta.Ec)
        have jb := hb.trans (set3_below (W := Y) (B := W2.heap.size) (g := bA) (by omega) (.slice ta.TA ta.Tn ta.Tc) (.slice ta.CA ta.Cn ta.Cc) (.slice ta.EA ta.En ta.Ec))
        rw [← hx6] at j0 j1 jk jb
        change K _ (set3 Y bA (.slice ta.TA ta.Tn ta.Tc) (.slice ta.CA ta.Cn ta.Cc) (.slice ta.EA ta.En ta.Ec))
        rw [← hx6]
        clear t0 t1 t2 zf0 zf1 zf2 hx6
        obtain ⟨⟨t0, t1, t2⟩, zf⟩ := blk_cells3 j1
        have zf0 := zf 0
        have zf1 := zf 1
        have zf2 := zf 2
        clear zf
        refine hK.out _ _ (HS.out _ jb) (fun hHeld => ?_)
        clear hK K
        try simp only [Act.put, List.getElem_toArray, List.getElem_cons_succ, List.getElem_cons_zero, List.setIfInBounds_toArray, List.set_cons_zero, List.set_cons_succ]
        refine wpAnyS_ready (rs := [7]) (by kernel_rfl) (by simp) (AllReadyS.cons true (by kernel_rfl) (o := _) rfl (fun K hK => ?_) AllReadyS.nil)
        go_simp
        obtain ⟨x7, hx7⟩ : ∃ x7, x7 = set3 x6 bB (.slice tb.TA tb.Tn tb.Tc) (.slice tb.CA tb.Cn tb.Cc) (.slice tb.EA tb.En tb.Ec) := ⟨_, rfl⟩
        have hres : OwnAB W2 (ownQ x.p) (ownQ y.p) (.pointer (some ⟨bA, 0, none⟩)) (.pointer (some ⟨bB, 0, none⟩)) x7 := by
          have ik := jk.trans (set3_keep j1 (.slice tb.TA tb.Tn tb.Tc) (.slice tb.CA tb.Cn tb.Cc) (.slice tb.EA tb.En tb.Ec))
          have ib := jb.trans (set3_below (W := x6) (B := W2.heap.size) (g := bB) (by omega) (.slice tb.TA tb.Tn tb.Tc) (.slice tb.CA tb.Cn tb.Cc) (.slice tb.EA tb.En tb.Ec))
          have i0 := set3_far (g := bB) j0 hne (.slice tb.TA tb.Tn tb.Tc) (.slice tb.CA tb.Cn tb.Cc) (.slice tb.EA tb.En tb.Ec)
          have i1 := set3_blk j1 (.slice tb.TA tb.Tn tb.Tc) (.slice tb.CA tb.Cn tb.Cc) (.slice tb.EA tb.En tb.Ec)
          rw [← hx7] at ik ib i0 i1
          exact ⟨bA, bB, ta, tb, rfl, rfl, hpa, hpb, i0, i1, hfa.keep ik, hfb.keep ik, ib⟩
        change K _ (set3 x6 bB (.slice tb.TA tb.Tn tb.Tc) (.slice tb.CA tb.Cn tb.Cc) (.slice tb.EA tb.En tb.Ec))
        rw [← hx7]
        have HRES := Lib.hid hres
        clear t0 t1 t2 zf0 zf1 zf2 hx7 hres
        refine hK.out _ _ trivial (fun hHeld => ?_)
        clear hK K
        try simp only [Act.put, List.getElem_toArray, List.getElem_cons_succ, List.getElem_cons_zero, List.setIfInBounds_toArray, List.set_cons_zero, List.set_cons_succ]
        refine wpAnyS_done (by kernel_rfl) ?_ _
        clear hHeld j0 j1 jk jb hfa hfb hkA hkB hpa hpb
        go_wp2_with fail
        go_meet
        case rel => exact HRES.out

    · skip
      go_simp
      obtain ⟨Y0B, hnx⟩ : ∃ Y, Y = Y0.alloc (.cells #[.slice none 0 0, .slice none 0 0, .slice none 0 0] 25) := ⟨_, rfl⟩
      have hst : Below Y0.heap.size Y0 Y0B := by rw [hnx]; exact (Below.refl _ _).alloc (Nat.le_refl _) _
      have hkB : Blk Y0B Y0.heap.size 25 #[.slice none 0 0, .slice none 0 0, .slice none 0 0] := by rw [hnx]; exact Blk.new Y0 _ _
      have hlB : W2.heap.size ≤ Y0.heap.size := hb.size
      have hb := hb.trans (hst.mono hb.size)
      rw [← hnx]

      generalize Y0.heap.size = bB at *
      refine hK.out _ _ (HS.out _ hb) (fun hHeld => ?_)
      clear hK K hst hnx
      try simp only [Act.put, List.getElem_toArray, List.getElem_cons_succ, List.getElem_cons_zero, List.setIfInBounds_toArray, List.set_cons_zero, List.set_cons_succ]

      refine wpAnyS_ready (rs := [1, 4]) (by kernel_rfl) (by simp) (AllReadyS.cons false (by kernel_rfl) (o := _) rfl (fun K hK => ?_) (AllReadyS.cons false (by kernel_rfl) (o := _) rfl (fun K hK => ?_) AllReadyS.nil))
      · skip
        go_simp
        with_reducible refine (cx _ hb).mono ?_
        rintro en Y0Bp ⟨ta, rfl, hpa, hfa, hst⟩
        (try unfold Tab.V)
        have hfa := hfa.base hb.size
        have hkB := blk_below hkB hst
        have hb := hb.trans (hst.mono hb.size)
        refine hK.out _ _ (HS.out _ hb) (fun hHeld => ?_)
        clear hK K hst
        try simp only [Act.put, List.getElem_toArray, List.getElem_cons_succ, List.getElem_cons_zero, List.setIfInBounds_toArray, List.set_cons_zero, List.set_cons_succ]

        refine wpAnyS_ready (rs := [3, 4]) (by kernel_rfl) (by simp) (AllReadyS.cons false (by kernel_rfl) (o := _) rfl (fun K hK => ?_) (AllReadyS.cons false (by kernel_rfl) (o := _) rfl (fun K hK => ?_) AllReadyS.nil))
        · skip
          go_simp
          with_reducible refine (cy _ hb).mono ?_
          rintro en Y0Bpq ⟨tb, rfl, hpb, hfb, hst⟩
          (try unfold Tab.V)
          have hfb := hfb.base hb.size
          have hfa := hfa.below hst
          have hkB := blk_below hkB hst
          have hb := hb.trans (hst.mono hb.size)
          refine hK.out _ _ (HS.out _ hb) (fun hHeld => ?_)
          clear hK K hst
          try simp only [Act.put, List.getElem_toArray, List.getElem_cons_succ, List.getElem_cons_zero, List.setIfInBounds_toArray, List.set_cons_zero, List.set_cons_succ]

          refine wpAnyS_ready (rs := [4]) (by kernel_rfl) (by simp) (AllReadyS.cons false (by kernel_rfl) (o := _) rfl (fun K hK => ?_) AllReadyS.nil)
          go_simp
          obtain ⟨Y0BpqA, hnx⟩ : ∃ Y, Y = Y0Bpq.alloc (.cells #[.slice none 0 0, .slice none 0 0, .slice none 0 0] 25) := ⟨_, rfl⟩
          have hst : Below Y0Bpq.heap.size Y0Bpq Y0BpqA := by rw [hnx]; exact (Below.refl _ _).alloc (Nat.le_refl _) _
          have hkA : Blk Y0BpqA Y0Bpq.heap.size 25 #[.slice none 0 0, .slice none 0 0, .slice none 0 0] := by rw [hnx]; exact Blk.new Y0Bpq _ _
          have hlA : W2.heap.size ≤ Y0Bpq.heap.size := hb.size
          have hfa := hfa.below hst
          have hfb := hfb.below hst
          have hkB0 := hkB
          have hkB := blk_below hkB hst
          have hb := hb.trans (hst.mono hb.size)
          rw [← hnx]
          have hAB : bB < Y0Bpq.heap.size := hkB0.lt
          generalize Y0Bpq.heap.size = bA at *
          refine hK.out _ _ (HS.out _ hb) (fun hHeld => ?_)
          clear hK K hst hnx
          try simp only [Act.put, List.getElem_toArray, List.getElem_cons_succ, List.getElem_cons_zero, List.setIfInBounds_toArray, List.set_cons_zero, List.set_cons_succ]

          generalize Y0BpqA = Y at *
          have hne : bA ≠ bB := by omega
          obtain ⟨⟨t0, t1, t2⟩, zf⟩ := blk_cells3 hkA
          have zf0 := zf 0
          have zf1 := zf 1
          have zf2 := zf 2
          clear zf
          refine wpAnyS_ready (rs := [6]) (by kernel_rfl) (by simp) (AllReadyS.cons false (by kernel_rfl) (o := _) rfl (fun K hK => ?_) AllReadyS.nil)
          go_simp
          obtain ⟨x6, hx6⟩ : ∃ x6, x6 = set3 Y bA (.slice ta.TA ta.Tn ta.Tc) (.slice ta.CA ta.Cn ta.Cc) (.slice ta.EA ta.En ta.Ec) := ⟨_, rfl⟩
          have j0 := set3_blk hkA (.slice ta.TA ta.Tn ta.Tc) (.slice ta.CA ta.Cn ta.Cc) (.slice ta.EA ta.En ta.Ec)
          have j1 := set3_far (g := bA) hkB (fun e => hne e.symm) (.slice ta.TA ta.Tn ta.Tc) (.slice ta.CA ta.Cn ta.Cc) (.slice ta.EA ta.En ta.Ec)
          have jk := set3_keep hkA (.slice ta.TA ta.Tn ta.Tc) (.slice ta.CA ta.Cn ta.Cc) (.slice ta.EA ta.En ta.Ec)
          have jb := hb.trans (set3_below (W := Y) (B := W2.heap.size) (g := bA) (by omega) (.slice ta.TA ta.Tn ta.Tc) (.slice ta.CA ta.Cn ta.Cc) (.slice ta.EA ta.En ta.Ec))
          rw [← hx6] at j0 j1 jk jb
          change K _ (set3 Y bA (.slice ta.TA ta.Tn ta.Tc) (.slice ta.CA ta.Cn ta.Cc) (.slice ta.EA ta.En ta.Ec))
          rw [← hx6]
          clear t0 t1 t2 zf0 zf1 zf2 hx6
          obtain ⟨⟨t0, t1, t2⟩, zf⟩ := blk_cells3 j1
          have zf0 := zf 0
          have zf1 := zf 1
          have zf2 := zf 2
          clear zf
          refine hK.out _ _ (HS.out _ jb) (fun hHeld => ?_)
          clear hK K
          try simp only [Act.put, List.getElem_toArray, List.getElem_cons_succ, List.getElem_cons_zero, List.setIfInBounds_toArray, List.set_cons_zero, List.set_cons_succ]
          refine wpAnyS_ready (rs := [7]) (by kernel_rfl) (by simp) (AllReadyS.cons true (by kernel_rfl) (o := _) rfl (fun K hK => ?_) AllReadyS.nil)
          go_simp
          obtain ⟨x7, hx7⟩ : ∃ x7, x7 = set3 x6 bB (.slice tb.TA tb.Tn tb.Tc) (.slice tb.CA tb.Cn tb.Cc) (.slice tb.EA tb.En tb.Ec) := ⟨_, rfl⟩
          have hres : OwnAB W2 (ownQ x.p) (ownQ y.p) (.pointer (some ⟨bA, 0, none⟩)) (.pointer (some ⟨bB, 0, none⟩)) x7 := by
            have ik := jk.trans (set3_keep j1 (.slice tb.TA tb.Tn tb.Tc) (.slice tb.CA tb.Cn tb.Cc) (.slice tb.EA tb.En tb.Ec))
            have ib := jb.trans (set3_below (W := x6) (B := W2.heap.size) (g := bB) (by omega) (.slice tb.TA tb.Tn tb.Tc) (.slice tb.CA tb.Cn tb.Cc) (.slice tb.EA tb.En tb.Ec))
            have i0 := set3_far (g := bB) j0 hne (.slice tb.TA tb.Tn tb.Tc) (.slice tb.CA tb.Cn tb.Cc) (.slice tb.EA tb.En tb.Ec)
            have i1 := set3_blk j1 (.slice tb.TA tb.Tn tb.Tc) (.slice tb.CA tb.Cn tb.Cc) (.slice tb.EA tb.En tb.Ec)
            rw [← hx7] at ik ib i0 i1
            exact ⟨bA, bB, ta, tb, rfl, rfl, hpa, hpb, i0, i1, hfa.keep ik, hfb.keep ik, ib⟩
          change K _ (set3 x6 bB (.slice tb.TA tb.Tn tb.Tc) (.slice tb.CA tb.Cn tb.Cc) (.slice tb.EA tb.En tb.Ec))
          rw [← hx7]
          have HRES := Lib.hid hres
          clear t0 t1 t2 zf0 zf1 zf2 hx7 hres
          refine hK.out _ _ trivial (fun hHeld => ?_)
          clear hK K
          try simp only [Act.put, List.getElem_toArray, List.getElem_cons_succ, List.getElem_cons_zero, List.setIfInBounds_toArray, List.set_cons_zero, List.set_cons_succ]
          refine wpAnyS_done (by kernel_rfl) ?_ _
          clear hHeld j0 j1 jk jb hfa hfb hkA hkB hpa hpb
          go_wp2_with fail
          go_meet
          case rel => exact HRES.out

        · skip
          go_simp
          obtain ⟨Y0BpA, hnx⟩ : ∃ Y, Y = Y0Bp.alloc (.cells #[.slice none 0 0, .slice none 0 0, .slice none 0 0] 25) := ⟨_, rfl⟩
          have hst : Below Y0Bp.heap.size Y0Bp Y0BpA := by rw [hnx]; exact (Below.refl _ _).alloc (Nat.le_refl _) _
          have hkA : Blk Y0BpA Y0Bp.heap.size 25 #[.slice none 0 0, .slice none 0 0, .slice none 0 0] := by rw [hnx]; exact Blk.new Y0Bp _ _
          have hlA : W2.heap.size ≤ Y0Bp.heap.size := hb.size
          have hfa := hfa.below hst
          have hkB0 := hkB
          have hkB := blk_below hkB hst
          have hb := hb.trans (hst.mono hb.size)
          rw [← hnx]
          have hAB : bB < Y0Bp.heap.size := hkB0.lt
          generalize Y0Bp.heap.size = bA at *
          refine hK.out _ _ (HS.out _ hb) (fun hHeld => ?_)
          clear hK K hst hnx
          try simp only [Act.put, List.getElem_toArray, List.getElem_cons_succ, List.getElem_cons_zero, List.setIfInBounds_toArray, List.set_cons_zero, List.set_cons_succ]

          refine wpAnyS_ready (rs := [3]) (by kernel_rfl) (by simp) (AllReadyS.cons false (by kernel_rfl) (o := _) rfl (fun K hK => ?_) AllReadyS.nil)
          go_simp
          with_reducible refine (cy _ hb).mono ?_
          rintro en Y0BpAq ⟨tb, rfl, hpb, hfb, hst⟩
          (try unfold Tab.V)
          have hfb := hfb.base hb.size
          have hfa := hfa.below hst
          have hkA := blk_below hkA hst
          have hkB := blk_below hkB hst
          have hb := hb.trans (hst.mono hb.size)
          refine hK.out _ _ (HS.out _ hb) (fun hHeld => ?_)
          clear hK K hst
          try simp only [Act.put, List.getElem_toArray, List.getElem_cons_succ, List.getElem_cons_zero, List.setIfInBounds_toArray, List.set_cons_zero, List.set_cons_succ]

          generalize Y0BpAq = Y at *
          have hne : bA ≠ bB := by omega
          obtain ⟨⟨t0, t1, t2⟩, zf⟩ := blk_cells3 hkA
          have zf0 := zf 0
          have zf1 := zf 1
          have zf2 := zf 2
          clear zf
          refine wpAnyS_ready (rs := [6]) (by kernel_rfl) (by simp) (AllReadyS.cons false (by kernel_rfl) (o := _) rfl (fun K hK => ?_) AllReadyS.nil)
          go_simp
          obtain ⟨x6, hx6⟩ : ∃ x6, x6 = set3 Y bA (.slice ta.TA ta.Tn ta.Tc) (.slice ta.CA ta.Cn ta.Cc) (.slice ta.EA ta.En ta.Ec) := ⟨_, rfl⟩
          have j0 := set3_blk hkA (.slice ta.TA ta.Tn ta.Tc) (.slice ta.CA ta.Cn ta.Cc) (.slice ta.EA ta.En ta.Ec)
          have j1 := set3_far (g := bA) hkB (fun e => hne e.symm) (.slice ta.TA ta.Tn ta.Tc) (.slice ta.CA ta.Cn ta.Cc) (.slice ta.EA ta.En ta.Ec)
          have jk := set3_keep hkA (.slice ta.TA ta.Tn ta.Tc) (.slice ta.CA ta.Cn ta.Cc) (.slice ta.EA ta.En ta.Ec)
          have jb := hb.trans (set3_below (W := Y) (B := W2.heap.size) (g := bA) (by omega) (.slice ta.TA ta.Tn ta.Tc) (.slice ta.CA ta.Cn ta.Cc) (.slice ta.EA ta.En ta.Ec))
          rw [← hx6] at j0 j1 jk jb
          change K _ (set3 Y bA (.slice ta.TA ta.Tn ta.Tc) (.slice ta.CA ta.Cn ta.Cc) (.slice ta.EA ta.En ta.Ec))
          rw [← hx6]
          clear t0 t1 t2 zf0 zf1 zf2 hx6
          obtain ⟨⟨t0, t1, t2⟩, zf⟩ := blk_cells3 j1
          have zf0 := zf 0
          have zf1 := zf 1
          have zf2 := zf 2
          clear zf
          refine hK.out _ _ (HS.out _ jb) (fun hHeld => ?_)
          clear hK K
          try simp only [Act.put, List.getElem_toArray, List.getElem_cons_succ, List.getElem_cons_zero, List.setIfInBounds_toArray, List.set_cons_zero, List.set_cons_succ]
          refine wpAnyS_ready (rs := [7]) (by kernel_rfl) (by simp) (AllReadyS.cons true (by kernel_rfl) (o := _) rfl (fun K hK => ?_) AllReadyS.nil)
          go_simp
          obtain ⟨x7, hx7⟩ : ∃ x7, x7 = set3 x6 bB (.slice tb.TA tb.Tn tb.Tc) (.slice tb.CA tb.Cn tb.Cc) (.slice tb.EA tb.En tb.Ec) := ⟨_, rfl⟩
          have hres : OwnAB W2 (ownQ x.p) (ownQ y.p) (.pointer (some ⟨bA, 0, none⟩)) (.pointer (some ⟨bB, 0, none⟩)) x7 := by
            have ik := jk.trans (set3_keep j1 (.slice tb.TA tb.Tn tb.Tc) (.slice tb.CA tb.Cn tb.Cc) (.slice tb.EA tb.En tb.Ec))
            have ib := jb.trans (set3_below (W := x6) (B := W2.heap.size) (g := bB) (by omega) (.slice tb.TA tb.Tn tb.Tc) (.slice tb.CA tb.Cn tb.Cc) (.slice tb.EA tb.En tb.Ec))
            have i0 := set3_far (g := bB) j0 hne (.slice tb.TA tb.Tn tb.Tc) (.slice tb.CA tb.Cn tb.Cc) (.slice tb.EA tb.En tb.Ec)
            have i1 := set3_blk j1 (.slice tb.TA tb.Tn tb.Tc) (.slice tb.CA tb.Cn tb.Cc) (.slice tb.EA tb.En tb.Ec)
            rw [← hx7] at ik ib i0 i1
            exact ⟨bA, bB, ta, tb, rfl, rfl, hpa, hpb, i0, i1, hfa.keep ik, hfb.keep ik, ib⟩
          change K _ (set3 x6 bB (.slice tb.TA tb.Tn tb.Tc) (.slice tb.CA tb.Cn tb.Cc) (.slice tb.EA tb.En tb.Ec))
          rw [← hx7]
          have HRES := Lib.hid hres
          clear t0 t1 t2 zf0 zf1 zf2 hx7 hres
          refine hK.out _ _ trivial (fun hHeld => ?_)
          clear hK K
          try simp only [Act.put, List.getElem_toArray, List.getElem_cons_succ, List.getElem_cons_zero, List.setIfInBounds_toArray, List.set_cons_zero, List.set_cons_succ]
          refine wpAnyS_done (by kernel_rfl) ?_ _
          clear hHeld j0 j1 jk jb hfa hfb hkA hkB hpa hpb
          go_wp2_with fail
          go_meet
          case rel => exact HRES.out

      · skip
        go_simp
        obtain ⟨Y0BA, hnx⟩ : ∃ Y, Y = Y0B.alloc (.cells #[.slice none 0 0, .slice none 0 0, .slice none 0 0] 25) := ⟨_, rfl⟩
        have hst : Below Y0B.heap.size Y0B Y0BA := by rw [hnx]; exact (Below.refl _ _).alloc (Nat.le_refl _) _
        have hkA : Blk Y0BA Y0B.heap.size 25 #[.slice none 0 0, .slice none 0 0, .slice none 0 0] := by rw [hnx]; exact Blk.new Y0B _ _
        have hlA : W2.heap.size ≤ Y0B.heap.size := hb.size
        have hkB0 := hkB
        have hkB := blk_below hkB hst
        have hb := hb.trans (hst.mono hb.size)
        rw [← hnx]
        have hAB : bB < Y0B.heap.size := hkB0.lt
        generalize Y0B.heap.size = bA at *
        refine hK.out _ _ (HS.out _ hb) (fun hHeld => ?_)
        clear hK K hst hnx
        try simp only [Act.put, List.getElem_toArray, List.getElem_cons_succ, List.getElem_cons_zero, List.setIfInBounds_toArray, List.set_cons_zero, List.set_cons_succ]

        refine wpAnyS_ready (rs := [1]) (by kernel_rfl) (by simp) (AllReadyS.cons false (by kernel_rfl) (o := _) rfl (fun K hK => ?_) AllReadyS.nil)
        go_simp
        with_reducible refine (cx _ hb).mono ?_
        rintro en Y0BAp ⟨ta, rfl, hpa, hfa, hst⟩
        (try unfold Tab.V)
        have hfa := hfa.base hb.size
        have hkA := blk_below hkA hst
        have hkB := blk_below hkB hst
        have hb := hb.trans (hst.mono hb.size)
        refine hK.out _ _ (HS.out _ hb) (fun hHeld => ?_)
        clear hK K hst
        try simp only [Act.put, List.getElem_toArray, List.getElem_cons_succ, List.getElem_cons_zero, List.setIfInBounds_toArray, List.set_cons_zero, List.set_cons_succ]

        refine wpAnyS_ready (rs := [3]) (by kernel_rfl) (by simp) (AllReadyS.cons false (by kernel_rfl) (o := _) rfl (fun K hK => ?_) AllReadyS.nil)
        go_simp
        with_reducible refine (cy _ hb).mono ?_
        rintro en Y0BApq ⟨tb, rfl, hpb, hfb, hst⟩
        (try unfold Tab.V)
        have hfb := hfb.base hb.size
        have hfa := hfa.below hst
        have hkA := blk_below hkA hst
        have hkB := blk_below hkB hst
        have hb := hb.trans (hst.mono hb.size)
        refine hK.out _ _ (HS.out _ hb) (fun hHeld => ?_)
        clear hK K hst
        try simp only [Act.put, List.getElem_toArray, List.getElem_cons_succ, List.getElem_cons_zero, List.setIfInBounds_toArray, List.set_cons_zero, List.set_cons_succ]

        generalize Y0BApq = Y at *
        have hne : bA ≠ bB := by omega
        obtain ⟨⟨t0, t1, t2⟩, zf⟩ := blk_cells3 hkA
        have zf0 := zf 0
        have zf1 := zf 1
        have zf2 := zf 2
        clear zf
        refine wpAnyS_ready (rs := [6]) (by kernel_rfl) (by simp) (AllReadyS.cons false (by kernel_rfl) (o := _) rfl (fun K hK => ?_) AllReadyS.nil)
        go_simp
        obtain ⟨x6, hx6⟩ : ∃ x6, x6 = set3 Y bA (.slice ta.TA ta.Tn ta.Tc) (.slice ta.CA ta.Cn ta.Cc) (.slice ta.EA ta.En ta.Ec) := ⟨_, rfl⟩
        have j0 := set3_blk hkA (.slice ta.TA ta.Tn ta.Tc) (.slice ta.CA ta.Cn ta.Cc) (.slice ta.EA ta.En ta.Ec)
        have j1 := set3_far (g := bA) hkB (fun e => hne e.symm) (.slice ta.TA ta.Tn ta.Tc) (.slice ta.CA ta.Cn ta.Cc) (.slice ta.EA ta.En ta.Ec)
        have jk := set3_keep hkA (.slice ta.TA ta.Tn ta.Tc) (.slice ta.CA ta.Cn ta.Cc) (.slice ta.EA ta.En ta.Ec)
        have jb := hb.trans (set3_below (W := Y) (B := W2.heap.size) (g := bA) (by omega) (.slice ta.TA ta.Tn ta.Tc) (.slice ta.CA ta.Cn ta.Cc) (.slice ta.EA ta.En ta.Ec))
        rw [← hx6] at j0 j1 jk jb
        change K _ (set3 Y bA (.slice ta.TA ta.Tn ta.Tc) (.slice ta.CA ta.Cn ta.Cc) (.slice ta.EA ta.En ta.Ec))
        rw [← hx6]
        clear t0 t1 t2 zf0 zf1 zf2 hx6
        obtain ⟨⟨t0, t1, t2⟩, zf⟩ := blk_cells3 j1
        have zf0 := zf 0
        have zf1 := zf 1
        have zf2 := zf 2
        clear zf
        refine hK.out _ _ (HS.out _ jb) (fun hHeld => ?_)
        clear hK K
        try simp only [Act.put, List.getElem_toArray, List.getElem_cons_succ, List.getElem_cons_zero, List.setIfInBounds_toArray, List.set_cons_zero, List.set_cons_succ]
        refine wpAnyS_ready (rs := [7]) (by kernel_rfl) (by simp) (AllReadyS.cons true (by kernel_rfl) (o := _) rfl (fun K hK => ?_) AllReadyS.nil)
        go_simp
        obtain ⟨x7, hx7⟩ : ∃ x7, x7 = set3 x6 bB (.slice tb.TA tb.Tn tb.Tc) (.slice tb.CA tb.Cn tb.Cc) (.slice tb.EA tb.En tb.Ec) := ⟨_, rfl⟩
        have hres : OwnAB W2 (ownQ x.p) (ownQ y.p) (.pointer (some ⟨bA, 0, none⟩)) (.pointer (some ⟨bB, 0, none⟩)) x7 := by
          have ik := jk.trans (set3_keep j1 (.slice tb.TA tb.Tn tb.Tc) (.slice tb.CA tb.Cn tb.Cc) (.slice tb.EA tb.En tb.Ec))
          have ib := jb.trans (set3_below (W := x6) (B := W2.heap.size) (g := bB) (by omega) (.slice tb.TA tb.Tn tb.Tc) (.slice tb.CA tb.Cn tb.Cc) (.slice tb.EA tb.En tb.Ec))
          have i0 := set3_far (g := bB) j0 hne (.slice tb.TA tb.Tn tb.Tc) (.slice tb.CA tb.Cn tb.Cc) (.slice tb.EA tb.En tb.Ec)
          have i1 := set3_blk j1 (.slice tb.TA tb.Tn tb.Tc) (.slice tb.CA tb.Cn tb.Cc) (.slice tb.EA tb.En tb.Ec)
          rw [← hx7] at ik ib i0 i1
          exact ⟨bA, bB, ta, tb, rfl, rfl, hpa, hpb, i0, i1, hfa.keep ik, hfb.keep ik, ib⟩
        change K _ (set3 x6 bB (.slice tb.TA tb.Tn tb.Tc) (.slice tb.CA tb.Cn tb.Cc) (.slice tb.EA tb.En tb.Ec))
        rw [← hx7]
        have HRES := Lib.hid hres
        clear t0 t1 t2 zf0 zf1 zf2 hx7 hres
        refine hK.out _ _ trivial (fun hHeld => ?_)
        clear hK K
        try simp only [Act.put, List.getElem_toArray, List.getElem_cons_succ, List.getElem_cons_zero, List.setIfInBounds_toArray, List.set_cons_zero, List.set_cons_succ]
        refine wpAnyS_done (by kernel_rfl) ?_ _
        clear hHeld j0 j1 jk jb hfa hfb hkA hkB hpa hpb
        go_wp2_with fail
        go_meet
        case rel => exact HRES.out


  case rest =>
  obtain ⟨bA, bB, a, b, rfl, rfl, hap, hbp, ka, kb, hfa, hfb, hb2⟩ := hcut
  have q1 := psm_ownQ x.p
  have q2 := psm_ownQ y.p
  rw [← hap] at q1
  rw [← hbp] at q2
  obtain ⟨pa, la, _⟩ := q1
  obtain ⟨pb, lb, _⟩ := q2
  have hTa := fun (W : World) (h : Below wc.heap.size wc W) => ((hfa.ok.keep h).more h.size)
  have hTb := fun (W : World) (h : Below wc.heap.size wc W) => ((hfb.ok.keep h).more h.size)
  have hna : a.es.length = a.En := hfa.ok.len.2.2
  have hnb : b.es.length = b.En := hfb.ok.len.2.2
  have hea : a.En ≤ 30 := by rw [← hna]; exact la
  have heb : b.En ≤ 30 := by rw [← hnb]; exact lb
  obtain ⟨wi, hwi⟩ : ∃ wi, wi = wc.alloc (.cells (madeCells #[.int .i64 0] a.En) 3) := ⟨_, rfl⟩
  have hbi : Below wc.heap.size wc wi := by rw [hwi]; exact (Below.refl _ _).alloc (Nat.le_refl _) _
  have kbi : Blk wi wc.heap.size 3 (madeCells #[.int .i64 0] a.En) := by rw [hwi]; exact Blk.new wc _ _
  have hri : Reads wi wi.heap.size 1 (some ⟨wc.heap.size, 0, none⟩) a.En (ins (List.replicate a.En 0)) := by
    rw [← made_ints]
    exact blk_reads kbi (by rw [size_madeCells])
  have cal := along_any a b (some ⟨wc.heap.size, 0, none⟩) a.En a.En (List.replicate a.En 0) wi (hTa wi hbi) (hTb wi hbi) pa pb (by rw [hna]; omega) (by rw [hnb]; omega) hri (by omega)
  obtain ⟨ii, hii, hzi0, hzi1, hzi2⟩ := info_parts info_int
  obtain ⟨st, hst⟩ : ∃ st, st = alG a.p b.p (shE a b) (List.replicate a.En 0) := ⟨_, rfl⟩
  have hgo : st.2.2 = 0 → st.1.2.2 = [] ∧ st.2.1.2.2.length = a.En + b.En ∧ tabB (ofP st.2.1) = true ∧ (∀ who, who ∈ a.es ++ b.es → who ∈ st.2.1.2.2) ∧ st.2.1.1 = b.ty ∧ st.2.1.2.1.length = b.F.length := fun h0 => by
    have hsh : shE a b = 0 := by
      by_cases hh : shE a b = 0
      · exact hh
      · exfalso
        have h9 : st = (a.p, b.p, shE a b) := by rw [hst]; exact alG_stop (s := (a.p, b.p, shE a b)) hh _
        rw [h9] at h0
        exact hh h0
    have htb : tabB (ofP b.p) = true := by
      rw [tabB_nx hfb.ok.nl]
      unfold shE at hsh
      split at hsh
      · rename_i hh
        rw [Bool.and_eq_true] at hh
        exact hh.2
      · cases hsh
    rw [hst, hsh] at h0 ⊢
    obtain ⟨g1, g2, g3, g4, g5, g6⟩ := alG_all a.En a.p b.p hfa.ok.esw htb hna h0
    exact ⟨g1, by rw [g2]; show a.En + b.es.length = _; rw [hnb], g3, fun who h => g4 who (List.mem_append.1 h), g5, by rw [g6]; show (b.F.map Col.p).length = _; rw [List.length_map]⟩
  rw [← hst] at cal
  have HGO := Lib.hid hgo
  have HKA := Lib.hid (fun (W : World) (h : Below wc.heap.size wc W) => And.intro (blk_cells3 (blk_below ka h)).1 (blk_cells3 (blk_below kb h)).1)
  have HR := Lib.hid (fun (W : World) (h : Below wc.heap.size wc W) => And.intro (hTa W h).es (hTb W h).es)
  have HWI := Lib.hid hwi
  have HBI := Lib.hid hbi
  have HBC := Lib.hid (HBW.out.trans (hb2.mono HBW.out.size))
  obtain ⟨⟨a0, a1, a2⟩, ⟨b0, b1, b2⟩⟩ := HKA.out wc (Below.refl _ _)
  obtain ⟨⟨e0, e1, e2⟩, ⟨f0, f1, f2⟩⟩ := HKA.out wi hbi
  have HNE := Lib.hid (And.intro hna hnb)
  have HBT := Lib.hid (show b.ty.length ≤ 65535 ∧ b.F.length ≤ 65535 from ⟨pb.1, by have h9 := pb.2.1; unfold Tab.p at h9; simpa using h9⟩)
  unfold AlR at cal
  unfold Tab.V at cal
  clear hwi hbi kbi hri ka kb hfa hfb hb2 pa pb la lb hap hbp hst hgo hTa hTb hx0 cx cy
  go_upto_region 5 with (first
    | (refine wpList_make_row wc rfl (.tmp 23) (.tmp 23) _ rfl 3 ii (.int .i64 0) Try.underlying47 hii hzi0 hzi1 rfl .i64 .i64 a.En rfl rfl (by rw [hzi2]; omega) (by omega) ?_)
    | fail)
  rw [← HWI.out]
  clear a0 a1 a2 b0 b1 b2
  go_upto_region 6 with (first
    | (go_at_call 55; ((with_reducible refine cal.mono ?_); rintro en w4 ⟨tf, tt, rfl, hpf, hpt, hff, hft, hb4⟩; (try unfold Tab.V)))
    | fail)
  obtain ⟨X6, hX6⟩ : ∃ X6, X6 = (w4.alloc (.cells #[.slice tf.TA tf.Tn tf.Tc, .slice tf.CA tf.Cn tf.Cc, .slice tf.EA tf.En tf.Ec] 25)).alloc (.cells #[.slice tt.TA tt.Tn tt.Tc, .slice tt.CA tt.Cn tt.Cc, .slice tt.EA tt.En tt.Ec] 25) := ⟨_, rfl⟩
  have h46 : Below w4.heap.size w4 X6 := by rw [hX6]; exact ((Below.refl _ _).alloc (Nat.le_refl _) _).alloc (by simp) _
  have kf : Blk X6 w4.heap.size 25 #[.slice tf.TA tf.Tn tf.Tc, .slice tf.CA tf.Cn tf.Cc, .slice tf.EA tf.En tf.Ec] := by rw [hX6]; exact (Blk.new w4 _ _).alloc _
  have kt : Blk X6 (w4.heap.size + 1) 25 #[.slice tt.TA tt.Tn tt.Tc, .slice tt.CA tt.Cn tt.Cc, .slice tt.EA tt.En tt.Ec] := by
    rw [hX6]
    have h := Blk.new (w4.alloc (.cells #[.slice tf.TA tf.Tn tf.Tc, .slice tf.CA tf.Cn tf.Cc, .slice tf.EA tf.En tf.Ec] 25)) 25 #[.slice tt.TA tt.Tn tt.Tc, .slice tt.CA tt.Cn tt.Cc, .slice tt.EA tt.En tt.Ec]
    rw [World.size_alloc] at h
    exact h
  rw [← hX6]
  have hx6 : Below wc.heap.size wc X6 := HBI.out.trans ((hb4.trans (h46.mono hb4.size)).mono HBI.out.size)
  have hft6 := (hft.below h46).ok
  have hfl : tf.es.length = tf.En := hff.ok.len.2.2
  have htl : tt.es.length = tt.En := hft.ok.len.2.2
  generalize w4.heap.size = b8 at *
  have HW6 := Lib.hid (HBC.out.trans (hx6.mono HBC.out.size))
  have HX6 := Lib.hid hx6
  have HKT := Lib.hid (fun (W : World) (h : Below X6.heap.size X6 W) => (blk_cells3 (blk_below kt h)).1)
  obtain ⟨⟨g0, g1, g2⟩, _⟩ := blk_cells3 kf
  obtain ⟨⟨t0, t1, t2⟩, _⟩ := blk_cells3 kt
  obtain ⟨⟨a0, a1, a2⟩, ⟨b0, b1, b2⟩⟩ := HKA.out X6 hx6
  clear hX6 h46 kf kt hb4 hff hft cal e0 e1 e2 f0 f1 f2
  obtain ⟨p1, p2, er⟩ := st
  try dsimp only at hpf
  try dsimp only at hpt
  try dsimp only at HGO
  try dsimp only
  by_cases her : er = 0
  · subst her
    rw [if_pos rfl] at hpf hpt
    obtain ⟨h1, h2, h3, h4, h5, h6⟩ := HGO.out rfl
    have hz : tf.En = 0 := by
      rw [← hfl, show tf.es = p1.2.2 from congrArg (fun p : PT => p.2.2) hpf, h1]; rfl
    have hse : tt.es = p2.2.2 := congrArg (fun p : PT => p.2.2) hpt
    have hm : tt.En = a.En + b.En := by rw [← htl, hse, h2]
    have htb : tabB tt = true := by rw [tabB_p (b := ofP p2) (by rw [ofP_p]; exact hpt) hft6.nl (ofP_nl _)]; exact h3
    rw [hz] at g2
    have hps : PSm tt.p := (show Bd 60 tt from ⟨htb, by rw [show tt.ty = p2.1 from congrArg (fun p : PT => p.1) hpt, h5]; exact HBT.out.1, by
      have h9 := congrArg (fun p : PT => p.2.1.length) hpt
      simp only [Tab.p, List.length_map] at h9
      rw [h9, h6]; exact HBT.out.2, by rw [htl]; omega⟩).psm (by omega) hft6.nl
    obtain ⟨stt, _, _⟩ := psm_sm hft6 hps
    have hmi : (tt.En : Int) = (a.En : Int) + (b.En : Int) := by omega
    have d2 : (((tt.En : Int)) != ((a.En : Int) + (b.En : Int))) = false := by rw [hmi]; simp
    have hmem : ∀ who, who ∈ a.es ++ b.es → rowK tt who = true := fun who h => rowK_mem htb (by rw [hse]; exact h4 who h)
    obtain ⟨X7, hX7⟩ : ∃ X7, X7 = X6.alloc (.cells #[.slice a.EA a.En a.Ec, .slice b.EA b.En b.Ec] 22) := ⟨_, rfl⟩
    have h67 : Below X6.heap.size X6 X7 := by rw [hX7]; exact (Below.refl _ _).alloc (Nat.le_refl _) _
    have kr : Blk X7 X6.heap.size 22 #[.slice a.EA a.En a.Ec, .slice b.EA b.En b.Ec] := by rw [hX7]; exact Blk.new X6 _ _
    obtain ⟨r1, r2⟩ := HR.out X7 (HX6.out.trans (h67.mono HX6.out.size))
    have ccc := concat_any X6.heap.size a.EA a.En a.Ec a.es b.EA b.En b.Ec b.es X7 kr r1 r2 (by omega) (by omega)
    have crw := fun (who : Int) (W : World) (h : Below X6.heap.size X6 W) => trow_any tt who W ((hft6.keep h).more h.size) stt
    have HMEM := Lib.hid hmem
    have HX7 := Lib.hid hX7
    have H67 := Lib.hid h67
    unfold CatR at ccc
    unfold Tab.V at crw
    clear hX7 h67 kr r1 r2 hmem hps htb hse h1 h2 h3 h4 h5 h6 hpf hpt hfl htl hft6 HGO hm stt
    go_upto_region 10 with fail
    go_upto_region 11 with (first
      | (go_at_call 56; ((rw [← HX7.out]); (with_reducible refine ccc.mono ?_); rintro en w8 ⟨CA, Cn, Cc, rfl, hrc, hb8⟩))
      | fail)
    have hcl : (a.es ++ b.es).length = Cn := by have := hrc.1; rw [ids_len] at this; omega
    have hCn : Cn ≤ 60 := by rw [← hcl, List.length_append, HNE.out.1, HNE.out.2]; omega
    have h68 := H67.out.trans (hb8.mono H67.out.size)
    have HCL := Lib.hid hcl
    have H68 := Lib.hid h68
    clear hcl hb8 ccc g0 g1 g2 t0 t1 t2 a0 a1 a2 b0 b1 b2 h68 hmi d2
    go_loopw [67] (fun i wr => ∃ k : Nat, k ≤ Cn ∧ i = .int .i64 k ∧ Below w8.heap.size w8 wr)
      (fun i _ => Cn - (intOf i).toNat)
    case atStart => exact ⟨0, Nat.zero_le _, rfl, Below.refl _ _⟩
    case round =>
      obtain ⟨k, hk, rfl, hb⟩ := hrel
      have hb6 := H68.out.trans (hb.mono H68.out.size)
      by_cases hlt : k < Cn
      · have e1 := List.getElem?_eq_getElem (l := a.es ++ b.es) (i := k) (by rw [HCL.out]; exact hlt)
        generalize (a.es ++ b.es)[k]'(by rw [HCL.out]; exact hlt) = who at e1
        obtain ⟨bc, oc, rfl, hlc, gc⟩ := ids_cell hrc e1
        have gc1 := cell_below' hb gc hlc
        have i1 : (k : Int) < (Cn : Int) := by omega
        have cr := crw who wr hb6
        rw [HMEM.out who (List.mem_of_getElem? e1)] at cr
        obtain ⟨t0, t1, t2⟩ := HKT.out wr hb6
        generalize rowI tt who = ri at *
        clear e1 gc crw
        go_wp2_with (first
          | (go_at_call 26; ((with_reducible refine cr.mono ?_); rintro en w9 ⟨rfl, hb9⟩))
          | fail)
        go_roundw
        case rel => exact ⟨k + 1, by omega, by go_num, hb.trans (hb9.mono hb.size)⟩
        case measure => simp [intOf]; omega
      · have hke : k = Cn := by omega
        subst hke
        have i1 : ¬ ((k : Int) < (k : Int)) := by omega
        clear crw
        go_wp2_with fail
        rw [← HPO.out]
        exact ⟨rfl, HW6.out.trans (hb6.mono HW6.out.size)⟩
  · have d1 : (er != 0) = true := by simpa using her
    rw [if_neg her] at hpf hpt
    have hz1 : tf.En = 0 := by rw [← hfl, show tf.es = [] from congrArg (fun p : PT => p.2.2) hpf]; rfl
    have hz2 : tt.En = 0 := by rw [← htl, show tt.es = [] from congrArg (fun p : PT => p.2.2) hpt]; rfl
    rw [hz1] at g2
    rw [hz2] at t2
    clear HGO hpf hpt her hfl htl hft6
    go_wp2_with fail
    rw [← HPO.out]
    exact ⟨rfl, HW6.out⟩
end Go.Proofs.Ytbcbknajhdaneaa
