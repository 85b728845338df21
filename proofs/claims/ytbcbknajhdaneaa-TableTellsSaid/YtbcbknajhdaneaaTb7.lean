/- What is proved: contracts of the closures of table's Push and Set. -/
import Derived.Test.YtbcbknajhdaneaaTb6
import Derived.Test.YtbcbknajhdaneaaHeld
namespace Go.Proofs.Ytbcbknajhdaneaa
open Go.RowKit
set_option linter.unusedVariables false
set_option linter.unusedSimpArgs false
theorem far3 {w : World} {g b i : Nat} {u : Value} (a0 a1 a2 : Value) (hh : True) (h : w.cell? ⟨b, i, none⟩ = some u) (hne : b ≠ g) :
    (((w.setCell ⟨g, 0, none⟩ a0).setCell ⟨g, 1, none⟩ a1).setCell ⟨g, 2, none⟩ a2).cell? ⟨b, i, none⟩ = some u := by
  have e : ∀ (w : World) (j : Nat) (v : Value), (w.setCell ⟨g, j, none⟩ v).cell? ⟨b, i, none⟩ = w.cell? ⟨b, i, none⟩ := fun w j v =>
    World.cell?_setCell_other w _ _ v (fun ee => hne (by injection ee with e1 _ _; exact e1.symm))
  rw [e, e, e]; exact h
set_option maxRecDepth 100000 in
set_option maxHeartbeats 4000000 in
theorem pushc_any (k : Nat) (x : Col) (v : Rw) (bl : Nat) (A : Option Addr) (n c : Nat) (G : List Rw) (w : World) (hx : ColOk w w.heap.size x) (hc : w.cell? ⟨bl, 0, none⟩ = some (.slice A n c)) (hbl : bl < w.heap.size)
    (hR : Reads w w.heap.size 1 A n (rws G)) (hk : G[k]? = some v) (hv : RwOk w w.heap.size v) (hn : n ≤ 65536) :
    Calls Try.prog 68 #[.int .i64 (k : Int), x.V, .pointer (some ⟨bl, 0, none⟩)] w (ColR (pushP x v) (pushE x v) w) := by
  obtain ⟨W0, hW0⟩ : ∃ W0, W0 = (w.alloc (.cells #[.int .i64 x.W, .int .i64 x.R, .slice x.A x.n x.c] 68)).alloc (.cells #[.int .i64 0, .int .i64 0, .slice none 0 0] 68) := ⟨_, rfl⟩
  have hB : Below w.heap.size w W0 := by rw [hW0]; exact ((Below.refl w.heap.size w).alloc (Nat.le_refl _) _).alloc (by simp) _
  have hsz : W0.heap.size = w.heap.size + 2 := by rw [hW0]; simp
  have k0 : Blk W0 w.heap.size 68 #[.int .i64 x.W, .int .i64 x.R, .slice x.A x.n x.c] := by rw [hW0]; exact (Blk.new w _ _).alloc _
  have k1 : Blk W0 (w.heap.size + 1) 68 #[.int .i64 0, .int .i64 0, .slice none 0 0] := by
    rw [hW0]
    have h := Blk.new (w.alloc (.cells #[.int .i64 x.W, .int .i64 x.R, .slice x.A x.n x.c] 68)) 68 #[.int .i64 0, .int .i64 0, .slice none 0 0]
    rw [World.size_alloc] at h
    exact h
  obtain ⟨b, off, rfl, hbb, g⟩ := rws_cell hR hk
  have hkn : k < n := by
    have h1 := hR.1
    rw [rws_len] at h1
    have := (List.getElem?_eq_some_iff.1 hk).1
    omega
  have hbA := Lib.hid (show Below W0.heap.size W0 (W0.drew.alloc (.cells #[.slice v.A v.n v.c] 44)) from ((Below.refl _ W0).drew).alloc (Nat.le_refl _) _)
  have hbw := hB.trans (hbA.out.mono hB.size)
  have cp := cpush_any x v (some ⟨W0.heap.size, 0, none⟩) 1 (W0.drew.alloc (.cells #[.slice v.A v.n v.c] 44)) ((hx.keep hbw).more hbw.size) ((hv.keep hbw).more hbw.size) (lit_reads _ _ _ rfl)
  obtain ⟨⟨s0', s1', s2'⟩, _⟩ := blk_cells3 k0
  have s3' := cell_below' hB hc hbl
  have s4' := cell_below' hB g hbb
  have h0 : w.heap.size < W0.heap.size := by omega
  have h1 := h0
  have h2 := h0
  have h3 : bl < W0.heap.size := by omega
  have h4 : b < W0.heap.size := by omega
  have HK := Lib.hid k1
  have HS := Lib.hid hsz
  have HW := Lib.hid hW0
  have i1 : (k : Int) < (n : Int) := by omega
  unfold Col.V colV ColR at cp
  unfold Col.V colV
  generalize pushP x v = pp at *
  generalize pushE x v = pe at *
  obtain ⟨xW, xR, xA, xn, xc, xl⟩ := x
  obtain ⟨vA, vn, vc, vl⟩ := v
  simp only at *
  clear hx hc hW0 hsz k0 k1 hR hk hv g hbw
  go_enter Try.func68, Try.ntmps68
  go_upto_region 1 with fail
  rw [← HW.out]
  refine wp_region_held_drew (S := fun w' => w'.cell? ⟨w.heap.size, 0, none⟩ = some (.int .i64 xW) ∧ w'.cell? ⟨w.heap.size, 1, none⟩ = some (.int .i64 xR) ∧ w'.cell? ⟨w.heap.size, 2, none⟩ = some (.slice xA xn xc) ∧ w'.cell? ⟨bl, 0, none⟩ = some (.slice (some ⟨b, off, none⟩) n c) ∧ w'.cell? ⟨b, off + k, none⟩ = some (.slice vA vn vc)) (by kernel_rfl) ⟨s0', s1', s2', s3', s4'⟩ (fun hHeld => ?_)
  refine wpAnyH_take (i := 0) (oi := _) (v := ?_) rfl (by kernel_rfl) (by kernel_rfl) (by kernel_rfl) (fun _ _ _ h => h) (Or.inl ⟨by rfl, ?_⟩) hHeld ?_
  rotate_left
  · intro w hSw; obtain ⟨s0, s1, s2, s3, s4⟩ := hSw; go_simp; try with_reducible rfl
  simp only [Act.put, List.getElem_toArray, List.getElem_cons_succ, List.getElem_cons_zero, List.setIfInBounds_toArray, List.set_cons_zero, List.set_cons_succ]
  refine wpAnyH_take (i := 1) (oi := _) (v := ?_) rfl (by kernel_rfl) (by kernel_rfl) (by kernel_rfl) (fun _ _ _ h => h) (Or.inl ⟨by rfl, ?_⟩) hHeld ?_
  rotate_left
  · intro w hSw; obtain ⟨s0, s1, s2, s3, s4⟩ := hSw; go_simp; try with_reducible rfl
  simp only [Act.put, List.getElem_toArray, List.getElem_cons_succ, List.getElem_cons_zero, List.setIfInBounds_toArray, List.set_cons_zero, List.set_cons_succ]
  refine wpAnyH_take (i := 2) (oi := _) (v := ?_) rfl (by kernel_rfl) (by kernel_rfl) (by kernel_rfl) (fun _ _ _ h => h) (Or.inl ⟨by rfl, ?_⟩) hHeld ?_
  rotate_left
  · intro w hSw; obtain ⟨s0, s1, s2, s3, s4⟩ := hSw; go_simp; try with_reducible rfl
  simp only [Act.put, List.getElem_toArray, List.getElem_cons_succ, List.getElem_cons_zero, List.setIfInBounds_toArray, List.set_cons_zero, List.set_cons_succ]
  refine wpAnyH_take (i := 3) (oi := _) (v := ?_) rfl (by kernel_rfl) (by kernel_rfl) (by kernel_rfl) (fun _ _ _ h => h) (Or.inl ⟨by rfl, ?_⟩) hHeld ?_
  rotate_left
  · intro w hSw; obtain ⟨s0, s1, s2, s3, s4⟩ := hSw; go_simp; try with_reducible rfl
  simp only [Act.put, List.getElem_toArray, List.getElem_cons_succ, List.getElem_cons_zero, List.setIfInBounds_toArray, List.set_cons_zero, List.set_cons_succ]
  refine wpAnyH_take (i := 4) (oi := _) (v := ?_) rfl (by kernel_rfl) (by kernel_rfl) (by kernel_rfl) (fun _ _ _ h => h) (Or.inl ⟨by rfl, ?_⟩) hHeld ?_
  rotate_left
  · intro w hSw; obtain ⟨s0, s1, s2, s3, s4⟩ := hSw; go_simp; try with_reducible rfl
  simp only [Act.put, List.getElem_toArray, List.getElem_cons_succ, List.getElem_cons_zero, List.setIfInBounds_toArray, List.set_cons_zero, List.set_cons_succ]
  refine wpAnyH_ready (rs := [5]) (by kernel_rfl) (by simp) (AllReadyH.cons (o := _) rfl (fun K hK => ?_) AllReadyH.nil)
  go_simp
  skip
  refine hK.out _ _ ⟨cell_below' hbA.out s0' h0, cell_below' hbA.out s1' h1, cell_below' hbA.out s2' h2, cell_below' hbA.out s3' h3, cell_below' hbA.out s4' h4⟩ (fun hHeld => ?_)
  clear hK K
  try simp only [Act.put, List.getElem_toArray, List.getElem_cons_succ, List.getElem_cons_zero, List.setIfInBounds_toArray, List.set_cons_zero, List.set_cons_succ]
  refine wpAnyH_ready (rs := [6]) (by kernel_rfl) (by simp) (AllReadyH.cons (o := _) rfl (fun K hK => ?_) AllReadyH.nil)
  go_simp
  refine cp.mono ?_
  rintro en w3 ⟨x', rfl, hp, hf, hb3⟩
  obtain ⟨xW', xR', xA', xn', xc', xl'⟩ := x'
  unfold Col.V colV
  have hb4 : Below W0.heap.size W0 w3 := hbA.out.trans (hb3.mono (by simp))
  have hk := HK.out.below hb4 (by have := HS.out; omega)
  have HF := Lib.hid hf
  have HP := Lib.hid hp
  have HK2 := Lib.hid hk
  obtain ⟨⟨q0, q1, q2⟩, qf⟩ := blk_cells3 hk
  have qf0 := qf 0
  have qf1 := qf 1
  have qf2 := qf 2
  clear hf hp hk qf
  refine hK.out _ _ ⟨cell_below' hb4 s0' h0, cell_below' hb4 s1' h1, cell_below' hb4 s2' h2, cell_below' hb4 s3' h3, cell_below' hb4 s4' h4⟩ (fun hHeld => ?_)
  clear hK K
  try simp only [Act.put, List.getElem_toArray, List.getElem_cons_succ, List.getElem_cons_zero, List.setIfInBounds_toArray, List.set_cons_zero, List.set_cons_succ]
  refine wpAnyH_take (i := 7) (oi := _) (v := ?_) rfl (by kernel_rfl) (by kernel_rfl) (by kernel_rfl) (fun _ _ _ h => h) (Or.inl ⟨by rfl, ?_⟩) hHeld ?_
  rotate_left
  · intro w hSw; obtain ⟨s0, s1, s2, s3, s4⟩ := hSw; go_simp; try with_reducible rfl
  simp only [Act.put, List.getElem_toArray, List.getElem_cons_succ, List.getElem_cons_zero, List.setIfInBounds_toArray, List.set_cons_zero, List.set_cons_succ]
  refine wpAnyH_take (i := 8) (oi := _) (v := ?_) rfl (by kernel_rfl) (by kernel_rfl) (by kernel_rfl) (fun _ _ _ h => h) (Or.inl ⟨by rfl, ?_⟩) hHeld ?_
  rotate_left
  · intro w hSw; obtain ⟨s0, s1, s2, s3, s4⟩ := hSw; go_simp; try with_reducible rfl
  simp only [Act.put, List.getElem_toArray, List.getElem_cons_succ, List.getElem_cons_zero, List.setIfInBounds_toArray, List.set_cons_zero, List.set_cons_succ]
  refine wpAnyH_ready (rs := [9]) (by kernel_rfl) (by simp) (AllReadyH.cons (o := _) rfl (fun K hK => ?_) AllReadyH.nil)
  go_simp
  skip
  refine hK.out _ _ ⟨far3 _ _ _ trivial (cell_below' hb4 s0' h0) (by omega), far3 _ _ _ trivial (cell_below' hb4 s1' h1) (by omega), far3 _ _ _ trivial (cell_below' hb4 s2' h2) (by omega), far3 _ _ _ trivial (cell_below' hb4 s3' h3) (by omega), far3 _ _ _ trivial (cell_below' hb4 s4' h4) (by omega)⟩ (fun hHeld => ?_)
  clear hK K
  try simp only [Act.put, List.getElem_toArray, List.getElem_cons_succ, List.getElem_cons_zero, List.setIfInBounds_toArray, List.set_cons_zero, List.set_cons_succ]
  refine wpAnyH_take (i := 10) (oi := _) (v := ?_) rfl (by kernel_rfl) (by kernel_rfl) (by kernel_rfl) (fun _ _ _ h => h) (Or.inl ⟨by rfl, ?_⟩) hHeld ?_
  rotate_left
  · intro w hSw; obtain ⟨s0, s1, s2, s3, s4⟩ := hSw; go_simp; try with_reducible rfl
  simp only [Act.put, List.getElem_toArray, List.getElem_cons_succ, List.getElem_cons_zero, List.setIfInBounds_toArray, List.set_cons_zero, List.set_cons_succ]
  refine wpAnyH_done (by kernel_rfl) ?_ _
  go_wp2_with fail
  refine bodyPost_ret (v := .tuple #[.agg #[.int .i64 xW', .int .i64 xR', .slice xA' xn' xc'], .int .i64 pe]) (by simp [results, Try.results68, go_sem, *]) rfl ?_
  exact ⟨⟨xW', xR', xA', xn', xc', xl'⟩, rfl, HP.out, fresh_set3 (colFresh_base HF.out (by have := hB.size; simp; omega)) HK2.out (by decide) _ _ _, below_set3 (hB.trans (hb4.mono hB.size)) (by omega)⟩
/-- what becomes of column k when column m's row is set -/
def setcE (m : Int) (row : Int) (v : Rw) (k : Nat) (x : Col) : Int := if (k : Int) = m then setE x row v else 0
def setcP (m : Int) (row : Int) (v : Rw) (k : Nat) (x : Col) : PC := if (k : Int) = m then setP x row v else x.p
set_option maxRecDepth 100000 in
set_option maxHeartbeats 4000000 in
theorem setc_any (k : Nat) (x : Col) (v : Rw) (bm br bv : Nat) (m row : Int) (w : World) (hx : ColOk w w.heap.size x) (hxn : x.n ≤ 65536) (hm : w.cell? ⟨bm, 0, none⟩ = some (.int .i64 m)) (hr : w.cell? ⟨br, 0, none⟩ = some (.int .i64 row)) (hvc : w.cell? ⟨bv, 0, none⟩ = some (.slice v.A v.n v.c))
    (hbm : bm < w.heap.size) (hbr : br < w.heap.size) (hbv : bv < w.heap.size) (hv : RwOk w w.heap.size v) :
    Calls Try.prog 92 #[.int .i64 (k : Int), x.V, .pointer (some ⟨bm, 0, none⟩), .pointer (some ⟨br, 0, none⟩), .pointer (some ⟨bv, 0, none⟩)] w (ColR (setcP m row v k x) (setcE m row v k x) w) := by
  obtain ⟨W0, hW0⟩ : ∃ W0, W0 = (w.alloc (.cells #[.int .i64 x.W, .int .i64 x.R, .slice x.A x.n x.c] 68)).alloc (.cells #[.int .i64 0, .int .i64 0, .slice none 0 0] 68) := ⟨_, rfl⟩
  have hB : Below w.heap.size w W0 := by rw [hW0]; exact ((Below.refl w.heap.size w).alloc (Nat.le_refl _) _).alloc (by simp) _
  have hsz : W0.heap.size = w.heap.size + 2 := by rw [hW0]; simp
  have k0 : Blk W0 w.heap.size 68 #[.int .i64 x.W, .int .i64 x.R, .slice x.A x.n x.c] := by rw [hW0]; exact (Blk.new w _ _).alloc _
  have k1 : Blk W0 (w.heap.size + 1) 68 #[.int .i64 0, .int .i64 0, .slice none 0 0] := by
    rw [hW0]
    have h := Blk.new (w.alloc (.cells #[.int .i64 x.W, .int .i64 x.R, .slice x.A x.n x.c] 68)) 68 #[.int .i64 0, .int .i64 0, .slice none 0 0]
    rw [World.size_alloc] at h
    exact h
  obtain ⟨⟨x0, x1, x2⟩, _⟩ := blk_cells3 k0
  have c1 := cell_below' hB hm hbm
  have c2 := cell_below' hB hr hbr
  have c3 := cell_below' hB hvc hbv
  have cs := cset_any x row v W0 ((hx.keep hB).more hB.size) ((hv.keep hB).more hB.size)
  have cu := clone_u x.A x.n x.c x.l W0 ((hx.keep hB).more hB.size).1 hxn
  have hxw := hx.2.2.2
  have hxl : x.l.length = x.n := by have := hx.1.1; rw [ids_len] at this; omega
  have HK := Lib.hid k1
  have HK0 := Lib.hid k0
  have HS := Lib.hid hsz
  have HW := Lib.hid hW0
  have HXW := Lib.hid hxw
  have HXL := Lib.hid hxl
  unfold setcP setcE
  by_cases hkm : (k : Int) = m
  · subst hkm
    rw [if_pos rfl, if_pos rfl]
    have t1 : ((k : Int) == (k : Int)) = true := by simp
    unfold Col.V colV ColR at cs
    unfold Col.V colV
    generalize setP x row v = pp at *
    generalize setE x row v = pe at *
    obtain ⟨xW, xR, xA, xn, xc, xl⟩ := x
    obtain ⟨vA, vn, vc, vl⟩ := v
    simp only at *
    clear hx hm hr hvc hW0 hsz k0 k1 hv cu hxw hxl
    go_enter Try.func92, Try.ntmps92
    go_upto_region 1 with fail
    rw [← HW.out]
    go_wp2_with (first | (go_at_call 93; ((with_reducible refine cs.mono ?_); rintro en w3 ⟨x', rfl, hp, hf, hb3⟩; obtain ⟨xW', xR', xA', xn', xc', xl'⟩ := x'; have hk := HK.out.below hb3 (by have := HS.out; omega); obtain ⟨⟨q0, q1, q2⟩, qf⟩ := blk_cells3 hk; have qf0 := qf 0; have qf1 := qf 1; have qf2 := qf 2; have HF := Lib.hid hf; have HP := Lib.hid hp; have HK2 := Lib.hid hk; unfold Col.V colV; (try simp only); clear hf hp hk qf)) | fail)
    refine bodyPost_ret (v := .tuple #[.agg #[.int .i64 xW', .int .i64 xR', .slice xA' xn' xc'], .int .i64 pe]) (by simp [results, Try.results92, go_sem, *]) rfl ?_
    exact ⟨⟨xW', xR', xA', xn', xc', xl'⟩, rfl, HP.out, fresh_set3 (colFresh_base HF.out hB.size) HK2.out (by decide) _ _ _, below_set3 (hB.trans (hb3.mono hB.size)) (by omega)⟩
  · rw [if_neg hkm, if_neg hkm]
    have t1 : ((k : Int) == m) = false := by simpa using hkm
    unfold OwnU at cu
    unfold Col.V colV
    obtain ⟨xW, xR, xA, xn, xc, xl⟩ := x
    simp only at *
    clear hx hm hr hvc hW0 hsz k0 k1 hv cs hxw hxl hkm
    go_enter Try.func92, Try.ntmps92
    go_upto_region 1 with fail
    rw [← HW.out]
    go_wp2_with (first | (go_at_call 63; ((with_reducible refine cu.mono ?_); rintro en w3 ⟨v, rfl, ho, hb3⟩; obtain ⟨A1, c1', rfl⟩ := own_slice ho; have hk := HK.out.below hb3 (by have := HS.out; omega); have hk0 := HK0.out.below hb3 (by have := HS.out; omega); obtain ⟨⟨q0, q1, q2⟩, qf⟩ := blk_cells3 hk; have qf0 := qf 0; have qf1 := qf 1; have qf2 := qf 2; obtain ⟨⟨z0, z1, z2⟩, zf⟩ := blk_cells3 hk0; have zf2 := zf 2; have HO := Lib.hid ho; have HK2 := Lib.hid hk; have HK3 := Lib.hid hk0; clear ho hk hk0 qf zf)) | fail)
    refine bodyPost_ret (v := .tuple #[.agg #[.int .i64 xW, .int .i64 xR, .slice A1 xl.length c1'], .int .i64 0]) (by simp [results, Try.results92, go_sem, *]) rfl ?_
    have hf0 := colFresh_base (colFresh_own xW xR HO.out HXW.out) hB.size
    have hf1 := colFresh_cell (i := 2) hf0 HK3.out (by decide) (.slice A1 xl.length c1')
    have hk5 := HK2.out.far (show w.heap.size + 1 ≠ (⟨w.heap.size, 2, none⟩ : Addr).block by simp) (.slice A1 xl.length c1')
    exact ⟨⟨xW, xR, A1, xl.length, c1', xl⟩, rfl, rfl, fresh_set3 hf1 hk5 (by decide) _ _ _, below_set3 ((hB.trans (hb3.mono hB.size)).setCell (p := ⟨w.heap.size, 2, none⟩) (Nat.le_refl _) _) (by omega)⟩
end Go.Proofs.Ytbcbknajhdaneaa
