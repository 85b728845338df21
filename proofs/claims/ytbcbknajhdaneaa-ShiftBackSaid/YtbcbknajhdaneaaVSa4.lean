/- What is proved: shift's carry: a value put in its place. -/
import Derived.Test.YtbcbknajhdaneaaVSa3
namespace Go.Proofs.Ytbcbknajhdaneaa
open Go.RowKit Go.Maps
set_option linter.unusedVariables false
set_option linter.unusedSimpArgs false
/-- what Move's closure reads and writes -/
structure CarI (f to : Tab) (row : Int) (bf br bv bt gv n c base : Nat) (G : List Rw) (w : World) : Prop where
  kf : Blk w bf 25 #[.slice f.TA f.Tn f.Tc, .slice f.CA f.Cn f.Cc, .slice f.EA f.En f.Ec]
  kr : Blk w br 3 #[.int .i64 row]
  kv : Blk w bv 28 #[.slice (some ⟨gv, 0, none⟩) n c]
  kt : Blk w bt 25 #[.slice to.TA to.Tn to.Tc, .slice to.CA to.Cn to.Cc, .slice to.EA to.En to.Ec]
  own : w.ownsRow base 44 1 (.slice (some ⟨gv, 0, none⟩) n c) n (rws G)
  fr : ∀ v ∈ G, RwFresh w base v
theorem CarI.below {f to : Tab} {row : Int} {bf br bv bt gv n c base : Nat} {G : List Rw} {w w' : World} (h : CarI f to row bf br bv bt gv n c base G w) (hb : Below w.heap.size w w') : CarI f to row bf br bv bt gv n c base G w' :=
  ⟨blk_below h.kf hb, blk_below h.kr hb, blk_below h.kv hb, blk_below h.kt hb, own_below h.own hb, fun v hv => (h.fr v hv).below hb⟩
theorem CarI.set {f to : Tab} {row : Int} {bf br bv bt gv n c base k : Nat} {G : List Rw} {w : World} {v : Rw} (h : CarI f to row bf br bv bt gv n c base G w) (hv : RwFresh w base v) :
    CarI f to row bf br bv bt gv n c base (G.set k v) (w.setCell ⟨gv, k, none⟩ v.V) := by
  have hst := h.own.stored k v.V
  have hne : ∀ {g : Nat} {t : TypeId} {cs : Array Value}, Blk w g t cs → 44 ≠ t → Blk (w.setCell ⟨gv, k, none⟩ v.V) g t cs := fun hk ht => blk_grown_own hk h.own ht hst.2
  have ho := hst.1
  rw [← rws_set] at ho
  refine ⟨hne h.kf (by decide), hne h.kr (by decide), hne h.kv (by decide), hne h.kt (by decide), ho, fun x hx => ?_⟩
  have hstep : ∀ z, RwFresh w base z → RwFresh (w.setCell ⟨gv, k, none⟩ v.V) base z := fun z hz => rwFresh_grown hz h.own (by decide) hst.2
  rcases List.mem_or_eq_of_mem_set hx with hx | rfl
  · exact hstep x (h.fr x hx)
  · exact hstep _ hv
def carB (x y : Col) (row : Int) : Bool := decide (getE x row = 0) && decide (((getL x row).length : Int) = y.W)
set_option maxRecDepth 100000 in
set_option maxHeartbeats 8000000 in
theorem carry_any (f to : Tab) (row : Int) (bf br bv bt gv n c base i k : Nat) (G : List Rw) (x y : Col) (w : World) (hI : CarI f to row bf br bv bt gv n c base G w) (hf : TabOk w base f) (ht : TabOk w base to)
    (hi : f.F[i]? = some x) (hk : to.F[k]? = some y) (hkn : k < n) (hb : base ≤ w.heap.size) :
    Calls Try.prog 99 #[.int .i64 (i : Int), .int .i64 (k : Int), .pointer (some ⟨bf, 0, none⟩), .pointer (some ⟨br, 0, none⟩), .pointer (some ⟨bv, 0, none⟩), .pointer (some ⟨bt, 0, none⟩)] w
      fun e w' => e = .returned (.bool (carB x y row)) ∧ ∃ v, v.l = getL x row ∧ ∃ w6, RwFresh w6 base v ∧ Below w.heap.size w w6 ∧ w' = w6.setCell ⟨gv, k, none⟩ v.V := by
  have hx := hf.csok x (List.mem_of_getElem? hi)
  have cg := fun (W : World) (h : Below w.heap.size w W) => cget_any x row W ((hx.keep (h.mono hb)).more (Nat.le_trans hb h.size))
  obtain ⟨b1, o1, hA1, hbl1, gc1⟩ := cols_cells hf.cs hi
  obtain ⟨b2, o2, hA2, hbl2, gc2⟩ := cols_cells ht.cs hk
  have hgb := own_base hI.own
  have HG2 := Lib.hid (fun (W : World) (h : Below base w W) => gc2.below h hbl2)
  have HSS := Lib.hid (fun (W : World) (h : Below w.heap.size w W) => And.intro (show W.cell? ⟨bf, 0, none⟩ = some (.slice f.TA f.Tn f.Tc) ∧ W.cell? ⟨bf, 1, none⟩ = some (.slice (some ⟨b1, o1, none⟩) f.Cn f.Cc) ∧ W.cell? ⟨bf, 2, none⟩ = some (.slice f.EA f.En f.Ec) from by have h9 := (blk_cells3 (blk_below hI.kf h)).1; rw [hA1] at h9; exact h9) (And.intro (gc1.below (h.mono hb) hbl1) ((blk_below hI.kr h).cell 0)))
  obtain ⟨⟨f0, f1, f2⟩, _⟩ := blk_cells3 hI.kf
  have r0 : w.cell? ⟨br, 0, none⟩ = some (.int .i64 row) := hI.kr.cell 0
  obtain ⟨x0, x1, x2⟩ := gc1
  have i1 : (i : Int) < (f.Cn : Int) := by have h1 := hf.len.2.1; have := (List.getElem?_eq_some_iff.1 hi).1; omega
  have i2 : (k : Int) < (to.Cn : Int) := by have h1 := ht.len.2.1; have := (List.getElem?_eq_some_iff.1 hk).1; omega
  have i3 : (k : Int) < (n : Int) := by omega
  rw [hA1] at f1
  have hWD : ∀ z ∈ getL x row, Word z := by
    intro z hz
    unfold getL at hz
    split at hz
    · exact hx.2.2.2 z (chunk_mem hz)
    · cases hz
  unfold GetP Col.V colV at cg
  have HI := Lib.hid hI
  have HWD := Lib.hid hWD
  unfold carB
  obtain ⟨xW, xR, xA, xn, xc, xl⟩ := x
  obtain ⟨yW, yR, yA, yn, yc, yl⟩ := y
  simp only at x0 x1 x2 cg
  generalize getL ⟨xW, xR, xA, xn, xc, xl⟩ row = gl at *
  generalize getE ⟨xW, xR, xA, xn, xc, xl⟩ row = ge at *
  obtain ⟨bb, hbb⟩ : ∃ bb, (decide (ge = 0) && decide ((gl.length : Int) = yW)) = bb := ⟨_, rfl⟩
  rw [hbb]
  have HBB := Lib.hid hbb
  clear hI hf ht hi hk hx hbl1 hbl2 gc2 hWD hbb
  go_enter Try.func99, Try.ntmps99
  go_upto_region 1 with fail
  refine wp_region_held_drew (S := fun w' => (w'.cell? ⟨bf, 0, none⟩ = some (.slice f.TA f.Tn f.Tc) ∧ w'.cell? ⟨bf, 1, none⟩ = some (.slice (some ⟨b1, o1, none⟩) f.Cn f.Cc) ∧ w'.cell? ⟨bf, 2, none⟩ = some (.slice f.EA f.En f.Ec)) ∧ (w'.cell? ⟨b1, o1 + i * 3, none⟩ = some (.int .i64 xW) ∧ w'.cell? ⟨b1, o1 + i * 3 + 1, none⟩ = some (.int .i64 xR) ∧ w'.cell? ⟨b1, o1 + i * 3 + 2, none⟩ = some (.slice xA xn xc)) ∧ w'.cell? ⟨br, 0, none⟩ = some (.int .i64 row)) (by kernel_rfl) ⟨⟨f0, f1, f2⟩, ⟨x0, x1, x2⟩, r0⟩ (fun hHeld => ?_)
  refine wpAnyH_take (i := 0) (oi := _) (v := ?_) rfl (by kernel_rfl) (by kernel_rfl) (by kernel_rfl) (fun _ _ _ h => h) (Or.inl ⟨by rfl, ?_⟩) hHeld ?_
  rotate_left
  · intro w hSw; obtain ⟨⟨s0, s1, s2⟩, ⟨s3, s4, s5⟩, s6⟩ := hSw; go_simp; try with_reducible rfl
  simp only [Act.put, List.getElem_toArray, List.getElem_cons_succ, List.getElem_cons_zero, List.setIfInBounds_toArray, List.set_cons_zero, List.set_cons_succ]
  refine wpAnyH_take (i := 1) (oi := _) (v := ?_) rfl (by kernel_rfl) (by kernel_rfl) (by kernel_rfl) (fun _ _ _ h => h) (Or.inl ⟨by rfl, ?_⟩) hHeld ?_
  rotate_left
  · intro w hSw; obtain ⟨⟨s0, s1, s2⟩, ⟨s3, s4, s5⟩, s6⟩ := hSw; go_simp; try with_reducible rfl
  simp only [Act.put, List.getElem_toArray, List.getElem_cons_succ, List.getElem_cons_zero, List.setIfInBounds_toArray, List.set_cons_zero, List.set_cons_succ]
  refine wpAnyH_take (i := 2) (oi := _) (v := ?_) rfl (by kernel_rfl) (by kernel_rfl) (by kernel_rfl) (fun _ _ _ h => h) (Or.inl ⟨by rfl, ?_⟩) hHeld ?_
  rotate_left
  · intro w hSw; obtain ⟨⟨s0, s1, s2⟩, ⟨s3, s4, s5⟩, s6⟩ := hSw; go_simp; try with_reducible rfl
  simp only [Act.put, List.getElem_toArray, List.getElem_cons_succ, List.getElem_cons_zero, List.setIfInBounds_toArray, List.set_cons_zero, List.set_cons_succ]
  refine wpAnyH_take (i := 3) (oi := _) (v := ?_) rfl (by kernel_rfl) (by kernel_rfl) (by kernel_rfl) (fun _ _ _ h => h) (Or.inl ⟨by rfl, ?_⟩) hHeld ?_
  rotate_left
  · intro w hSw; obtain ⟨⟨s0, s1, s2⟩, ⟨s3, s4, s5⟩, s6⟩ := hSw; go_simp; try with_reducible rfl
  simp only [Act.put, List.getElem_toArray, List.getElem_cons_succ, List.getElem_cons_zero, List.setIfInBounds_toArray, List.set_cons_zero, List.set_cons_succ]
  refine wpAnyH_take (i := 4) (oi := _) (v := ?_) rfl (by kernel_rfl) (by kernel_rfl) (by kernel_rfl) (fun _ _ _ h => h) (Or.inl ⟨by rfl, ?_⟩) hHeld ?_
  rotate_left
  · intro w hSw; obtain ⟨⟨s0, s1, s2⟩, ⟨s3, s4, s5⟩, s6⟩ := hSw; go_simp; try with_reducible rfl
  simp only [Act.put, List.getElem_toArray, List.getElem_cons_succ, List.getElem_cons_zero, List.setIfInBounds_toArray, List.set_cons_zero, List.set_cons_succ]
  refine wpAnyH_take (i := 5) (oi := _) (v := ?_) rfl (by kernel_rfl) (by kernel_rfl) (by kernel_rfl) (fun _ _ _ h => h) (Or.inl ⟨by rfl, ?_⟩) hHeld ?_
  rotate_left
  · intro w hSw; obtain ⟨⟨s0, s1, s2⟩, ⟨s3, s4, s5⟩, s6⟩ := hSw; go_simp; try with_reducible rfl
  simp only [Act.put, List.getElem_toArray, List.getElem_cons_succ, List.getElem_cons_zero, List.setIfInBounds_toArray, List.set_cons_zero, List.set_cons_succ]
  refine wpAnyH_ready (rs := [6]) (by kernel_rfl) (by simp) (AllReadyH.cons (o := _) rfl (fun K hK => ?_) AllReadyH.nil)
  go_simp
  (with_reducible refine (cg _ (Below.refl _ _).drew).mono ?_)
  rintro en w6 ⟨vg, rfl, hog, hb6⟩
  have hb06 : Below w.heap.size w w6 := (Below.refl _ _).drew.trans hb6
  obtain ⟨Ag, cG, rfl⟩ := own_slice hog
  refine hK.out _ _ (HSS.out _ hb06) (fun hHeld => ?_)
  clear hK K
  try simp only [Act.put, List.getElem_toArray, List.getElem_cons_succ, List.getElem_cons_zero, List.setIfInBounds_toArray, List.set_cons_zero, List.set_cons_succ]
  refine wpAnyH_take (i := 7) (oi := _) (v := ?_) rfl (by kernel_rfl) (by kernel_rfl) (by kernel_rfl) (fun _ _ _ h => h) (Or.inl ⟨by rfl, ?_⟩) hHeld ?_
  rotate_left
  · intro w hSw; obtain ⟨⟨s0, s1, s2⟩, ⟨s3, s4, s5⟩, s6⟩ := hSw; go_simp; try with_reducible rfl
  simp only [Act.put, List.getElem_toArray, List.getElem_cons_succ, List.getElem_cons_zero, List.setIfInBounds_toArray, List.set_cons_zero, List.set_cons_succ]
  refine wpAnyH_take (i := 8) (oi := _) (v := ?_) rfl (by kernel_rfl) (by kernel_rfl) (by kernel_rfl) (fun _ _ _ h => h) (Or.inl ⟨by rfl, ?_⟩) hHeld ?_
  rotate_left
  · intro w hSw; obtain ⟨⟨s0, s1, s2⟩, ⟨s3, s4, s5⟩, s6⟩ := hSw; go_simp; try with_reducible rfl
  simp only [Act.put, List.getElem_toArray, List.getElem_cons_succ, List.getElem_cons_zero, List.setIfInBounds_toArray, List.set_cons_zero, List.set_cons_succ]
  refine wpAnyH_take (i := 9) (oi := _) (v := ?_) rfl (by kernel_rfl) (by kernel_rfl) (by kernel_rfl) (fun _ _ _ h => h) (Or.inl ⟨by rfl, ?_⟩) hHeld ?_
  rotate_left
  · intro w hSw; obtain ⟨⟨s0, s1, s2⟩, ⟨s3, s4, s5⟩, s6⟩ := hSw; go_simp; try with_reducible rfl
  simp only [Act.put, List.getElem_toArray, List.getElem_cons_succ, List.getElem_cons_zero, List.setIfInBounds_toArray, List.set_cons_zero, List.set_cons_succ]
  refine wpAnyH_take (i := 10) (oi := _) (v := ?_) rfl (by kernel_rfl) (by kernel_rfl) (by kernel_rfl) (fun _ _ _ h => h) (Or.inl ⟨by rfl, ?_⟩) hHeld ?_
  rotate_left
  · intro w hSw; obtain ⟨⟨s0, s1, s2⟩, ⟨s3, s4, s5⟩, s6⟩ := hSw; go_simp; try with_reducible rfl
  simp only [Act.put, List.getElem_toArray, List.getElem_cons_succ, List.getElem_cons_zero, List.setIfInBounds_toArray, List.set_cons_zero, List.set_cons_succ]
  refine wpAnyH_take (i := 11) (oi := _) (v := ?_) rfl (by kernel_rfl) (by kernel_rfl) (by kernel_rfl) (fun _ _ _ h => h) (Or.inl ⟨by rfl, ?_⟩) hHeld ?_
  rotate_left
  · intro w hSw; obtain ⟨⟨s0, s1, s2⟩, ⟨s3, s4, s5⟩, s6⟩ := hSw; go_simp; try with_reducible rfl
  simp only [Act.put, List.getElem_toArray, List.getElem_cons_succ, List.getElem_cons_zero, List.setIfInBounds_toArray, List.set_cons_zero, List.set_cons_succ]
  refine wpAnyH_done (by kernel_rfl) ?_ _
  have hI6 := HI.out.below hb06
  have hvf : RwFresh w6 base ⟨Ag, gl.length, cG, gl⟩ := colFresh_base (rwFresh_own hog HWD.out) hb
  have hst := hI6.set (k := k) hvf
  unfold Rw.V at hst
  have hb0 : Below base w (w6.setCell ⟨gv, k, none⟩ (.slice Ag gl.length cG)) := (hb06.mono hb).setCell (p := ⟨gv, k, none⟩) hgb _
  have v0 : w6.cell? ⟨bv, 0, none⟩ = some (.slice (some ⟨gv, 0, none⟩) n c) := hI6.kv.cell 0
  have vf := hI6.own.frozenAt k
  obtain ⟨u, hu⟩ : ∃ u, w6.cell? ⟨gv, k, none⟩ = some u := by
    have hGl : G.length = n := by have h1 := hI6.own.1; rw [rws_len] at h1; omega
    have e4 := List.getElem?_eq_getElem (l := G) (i := k) (by omega)
    obtain ⟨b5, off5, e2, _, g2⟩ := rws_cell (Reads.of_own hI6.own) e4
    injection e2 with e2
    injection e2 with e2 e3
    subst e2 e3
    rw [Nat.zero_add] at g2
    exact ⟨_, g2⟩
  obtain ⟨⟨t0, t1, t2⟩, _⟩ := blk_cells3 hst.kt
  rw [hA2] at t1
  obtain ⟨y0, y1, y2⟩ := HG2.out _ hb0
  simp only at y0 y1 y2
  have HST := Lib.hid hst
  have HB0 := Lib.hid hb0
  have HVF := Lib.hid hvf
  have HB06 := Lib.hid hb06
  clear hI6 hvf hst hb0 cg f0 f1 f2 x0 x1 x2 r0 hHeld hb6 hb06 hog hA1 hA2
  by_cases he : ge = 0
  · subst he
    by_cases hw : (gl.length : Int) = yW
    · have d1 : ((gl.length : Int) == yW) = true := by simpa using hw
      obtain rfl : bb = true := by rw [← HBB.out]; simp [hw]
      clear hw
      go_wp2_with fail
      go_ret
      exact ⟨rfl, ⟨Ag, gl.length, cG, gl⟩, rfl, w6, HVF.out, HB06.out, rfl⟩
    · have d1 : ((gl.length : Int) == yW) = false := by simpa using hw
      obtain rfl : bb = false := by rw [← HBB.out]; simp [hw]
      clear hw
      go_wp2_with fail
      go_ret
      exact ⟨rfl, ⟨Ag, gl.length, cG, gl⟩, rfl, w6, HVF.out, HB06.out, rfl⟩
  · have d1 : (ge == 0) = false := by simpa using he
    obtain rfl : bb = false := by rw [← HBB.out]; simp [he]
    clear he
    go_wp2_with fail
    go_ret
    exact ⟨rfl, ⟨Ag, gl.length, cG, gl⟩, rfl, w6, HVF.out, HB06.out, rfl⟩
end Go.Proofs.Ytbcbknajhdaneaa
