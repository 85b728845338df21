/- What is proved: contract of the document's Right. -/
import Derived.Test.YtibjelonabhcmaaDoorTrQ
import Derived.Test.YtibjelonabhcmaaDoorLater
namespace Go.Proofs.YtibjelonabhcmaaDoor
open Go.RowKit
set_option linter.unusedVariables false
set_option linter.unusedSimpArgs false
theorem rok_cases (x : Rel) : ((mayE x.w x.t x.r = 2 ∨ mayE x.w x.t x.r = 231) ∧ okRel x = false) ∨ (mayE x.w x.t x.r = 0 ∧ decide (1 ≤ x.i ∧ x.i ≤ 1048578) = false ∧ okRel x = false) ∨ (mayE x.w x.t x.r = 0 ∧ decide (1 ≤ x.i ∧ x.i ≤ 1048578) = true ∧ okRel x = true) := by
  unfold okRel
  rcases mayE_cases x.w x.t x.r with h | h | h <;> rw [h] <;> cases decide (1 ≤ x.i ∧ x.i ≤ 1048578) <;> simp
theorem okAt_0 (l : List Rel) (x : Rel) : okAt l 0 x = okRel x := by
  show (okRel x && (true || _)) = _
  rw [Bool.true_or, Bool.and_true]
theorem okAt_s (l : List Rel) (k : Nat) (x : Rel) : okAt l (k + 1) x = (okRel x && decide (keyAt l k < x.i)) := by
  show (okRel x && (false || _)) = _
  rw [Bool.false_or]; rfl
set_option maxRecDepth 100000 in
set_option maxHeartbeats 8000000 in
theorem right_e (b off n c : Nat) (l : List Rel) (x y : Rel) (w : World) (hR : Reads w w.heap.size 6 (some ⟨b, off, none⟩) n (rels l)) (h2 : Two2 w w b off x y) (hn : 2 ≤ n) (hn2 : n ≤ 200) (hx : releq x f0 = true) (hy : releq y f1 = true) :
    Calls Tryd.prog 11 #[.slice (some ⟨b, off, none⟩) n c] w fun e w' => e = .returned (.bool (rowOk l n)) ∧ Below w.heap.size w w' := by
  have hl : l.length = n := by have := hR.1; rw [rels_len] at this; omega
  have q1 := fun w => run_neq_rel w x f0
  have q2 := fun w => run_neq_rel w y f1
  rw [hx] at q1
  rw [hy] at q2
  clear hx hy
  unfold relV f0 at q1
  unfold relV f1 at q2
  have hu : Tryd.prog.cellsOf 31 = 6 := by kernel_rfl
  have t1 : (2 : Int) ≤ (n : Int) := by omega
  have t2 : (n : Int) ≤ 200 := by omega
  have t5 : decide ((n : Int) < 2) = false := decide_eq_false (by omega)
  have t6 : decide (200 < (n : Int)) = false := decide_eq_false (by omega)
  have t3 : (0 : Int) < (n : Int) := by omega
  have t4 : (1 : Int) < (n : Int) := by omega
  have t7 : 0 < n := by omega
  have t8 : 1 < n := by omega
  go_enter Tryd.func11, Tryd.ntmps11
  go_wp2_with fail
  refine wp_region_held_drew (S := fun w' => Two2 w w' b off x y) (by kernel_rfl) h2.drew' (fun hHeld => ?_)
  refine wpAnyH_take (i := 0) (oi := _) (v := ?_) rfl (by kernel_rfl) (by kernel_rfl) (by kernel_rfl) (fun _ _ _ h => h) (Or.inl ⟨by rfl, ?_⟩) hHeld ?_
  rotate_left
  · intro w hSw; obtain ⟨⟨x0, x1, x2, x3, x4, x5⟩, ⟨y0, y1, y2, y3, y4, y5⟩, hl, hB⟩ := hSw; go_simp; try with_reducible rfl
  simp only [Act.put, List.getElem_toArray, List.getElem_cons_succ, List.getElem_cons_zero, List.setIfInBounds_toArray, List.set_cons_zero, List.set_cons_succ]
  refine wpAnyH_take (i := 1) (oi := _) (v := ?_) rfl (by kernel_rfl) (by kernel_rfl) (by kernel_rfl) (fun _ _ _ h => h) (Or.inl ⟨by rfl, ?_⟩) hHeld ?_
  rotate_left
  · intro w hSw; obtain ⟨⟨x0, x1, x2, x3, x4, x5⟩, ⟨y0, y1, y2, y3, y4, y5⟩, hl, hB⟩ := hSw; go_simp; try with_reducible rfl
  simp only [Act.put, List.getElem_toArray, List.getElem_cons_succ, List.getElem_cons_zero, List.setIfInBounds_toArray, List.set_cons_zero, List.set_cons_succ]
  refine wpAnyH_take (i := 2) (oi := _) (v := ?_) rfl (by kernel_rfl) (by kernel_rfl) (by kernel_rfl) (fun _ _ _ h => h) (Or.inl ⟨by rfl, ?_⟩) hHeld ?_
  rotate_left
  · intro w hSw; obtain ⟨⟨x0, x1, x2, x3, x4, x5⟩, ⟨y0, y1, y2, y3, y4, y5⟩, hl, hB⟩ := hSw; go_simp; try with_reducible rfl
  simp only [Act.put, List.getElem_toArray, List.getElem_cons_succ, List.getElem_cons_zero, List.setIfInBounds_toArray, List.set_cons_zero, List.set_cons_succ]
  refine wpAnyH_take (i := 3) (oi := _) (v := ?_) rfl (by kernel_rfl) (by kernel_rfl) (by kernel_rfl) (fun _ _ _ h => h) (Or.inl ⟨by rfl, ?_⟩) hHeld ?_
  rotate_left
  · intro w hSw; obtain ⟨⟨x0, x1, x2, x3, x4, x5⟩, ⟨y0, y1, y2, y3, y4, y5⟩, hl, hB⟩ := hSw; go_simp; try with_reducible rfl
  simp only [Act.put, List.getElem_toArray, List.getElem_cons_succ, List.getElem_cons_zero, List.setIfInBounds_toArray, List.set_cons_zero, List.set_cons_succ]
  refine wpAnyH_take (i := 4) (oi := _) (v := ?_) rfl (by kernel_rfl) (by kernel_rfl) (by kernel_rfl) (fun _ _ _ h => h) (Or.inl ⟨by rfl, ?_⟩) hHeld ?_
  rotate_left
  · intro w hSw; obtain ⟨⟨x0, x1, x2, x3, x4, x5⟩, ⟨y0, y1, y2, y3, y4, y5⟩, hl, hB⟩ := hSw; go_simp; try with_reducible rfl
  simp only [Act.put, List.getElem_toArray, List.getElem_cons_succ, List.getElem_cons_zero, List.setIfInBounds_toArray, List.set_cons_zero, List.set_cons_succ]
  refine wpAnyH_take (i := 5) (oi := _) (v := ?_) rfl (by kernel_rfl) (by kernel_rfl) (by kernel_rfl) (fun _ _ _ h => h) (Or.inl ⟨by rfl, ?_⟩) hHeld ?_
  rotate_left
  · intro w hSw; obtain ⟨⟨x0, x1, x2, x3, x4, x5⟩, ⟨y0, y1, y2, y3, y4, y5⟩, hl, hB⟩ := hSw; go_simp; try with_reducible rfl
  simp only [Act.put, List.getElem_toArray, List.getElem_cons_succ, List.getElem_cons_zero, List.setIfInBounds_toArray, List.set_cons_zero, List.set_cons_succ]
  refine wpAnyH_take (i := 6) (oi := _) (v := ?_) rfl (by kernel_rfl) (by kernel_rfl) (by kernel_rfl) (fun _ _ _ h => h) (Or.inl ⟨by rfl, ?_⟩) hHeld ?_
  rotate_left
  · intro w hSw; obtain ⟨⟨x0, x1, x2, x3, x4, x5⟩, ⟨y0, y1, y2, y3, y4, y5⟩, hl, hB⟩ := hSw; go_simp; try with_reducible rfl
  simp only [Act.put, List.getElem_toArray, List.getElem_cons_succ, List.getElem_cons_zero, List.setIfInBounds_toArray, List.set_cons_zero, List.set_cons_succ]
  refine wpAnyH_take (i := 7) (oi := _) (v := ?_) rfl (by kernel_rfl) (by kernel_rfl) (by kernel_rfl) (fun _ _ _ h => h) (Or.inl ⟨by rfl, ?_⟩) hHeld ?_
  rotate_left
  · intro w hSw; obtain ⟨⟨x0, x1, x2, x3, x4, x5⟩, ⟨y0, y1, y2, y3, y4, y5⟩, hl, hB⟩ := hSw; go_simp; try with_reducible rfl
  simp only [Act.put, List.getElem_toArray, List.getElem_cons_succ, List.getElem_cons_zero, List.setIfInBounds_toArray, List.set_cons_zero, List.set_cons_succ]
  refine wpAnyH_take (i := 8) (oi := _) (v := ?_) rfl (by kernel_rfl) (by kernel_rfl) (by kernel_rfl) (fun _ _ _ h => h) (Or.inl ⟨by rfl, ?_⟩) hHeld ?_
  rotate_left
  · intro w hSw; obtain ⟨⟨x0, x1, x2, x3, x4, x5⟩, ⟨y0, y1, y2, y3, y4, y5⟩, hl, hB⟩ := hSw; go_simp; try with_reducible rfl
  simp only [Act.put, List.getElem_toArray, List.getElem_cons_succ, List.getElem_cons_zero, List.setIfInBounds_toArray, List.set_cons_zero, List.set_cons_succ]
  refine wpAnyH_take (i := 9) (oi := _) (v := ?_) rfl (by kernel_rfl) (by kernel_rfl) (by kernel_rfl) (fun _ _ _ h => h) (Or.inl ⟨by rfl, ?_⟩) hHeld ?_
  rotate_left
  · intro w hSw; obtain ⟨⟨x0, x1, x2, x3, x4, x5⟩, ⟨y0, y1, y2, y3, y4, y5⟩, hl, hB⟩ := hSw; go_simp; try with_reducible rfl
  simp only [Act.put, List.getElem_toArray, List.getElem_cons_succ, List.getElem_cons_zero, List.setIfInBounds_toArray, List.set_cons_zero, List.set_cons_succ]
  refine wpAnyH_take (i := 10) (oi := _) (v := ?_) rfl (by kernel_rfl) (by kernel_rfl) (by kernel_rfl) (fun _ _ _ h => h) (Or.inl ⟨by rfl, ?_⟩) hHeld ?_
  rotate_left
  · intro w hSw; obtain ⟨⟨x0, x1, x2, x3, x4, x5⟩, ⟨y0, y1, y2, y3, y4, y5⟩, hl, hB⟩ := hSw; go_simp; try with_reducible rfl
  simp only [Act.put, List.getElem_toArray, List.getElem_cons_succ, List.getElem_cons_zero, List.setIfInBounds_toArray, List.set_cons_zero, List.set_cons_succ]
  refine wpAnyH_take (i := 11) (oi := _) (v := ?_) rfl (by kernel_rfl) (by kernel_rfl) (by kernel_rfl) (fun _ _ _ h => h) (Or.inl ⟨by rfl, ?_⟩) hHeld ?_
  rotate_left
  · intro w hSw; obtain ⟨⟨x0, x1, x2, x3, x4, x5⟩, ⟨y0, y1, y2, y3, y4, y5⟩, hl, hB⟩ := hSw; go_simp; try with_reducible rfl
  simp only [Act.put, List.getElem_toArray, List.getElem_cons_succ, List.getElem_cons_zero, List.setIfInBounds_toArray, List.set_cons_zero, List.set_cons_succ]
  refine wpAnyH_ready (rs := [12]) (by kernel_rfl) (by simp) (AllReadyH.cons (o := _) rfl (fun K hK => ?_) AllReadyH.nil)
  go_simp
  go_at_call 16
  refine (rnew_two _).mono ?_
  rintro e w1 ⟨b1, off1, c1, rfl, ⟨hz, _⟩, hb1⟩
  refine hK.out _ _ (hHeld.keep hb1) (fun hHeld => ?_)
  clear hK K
  try simp only [Act.put, List.getElem_toArray, List.getElem_cons_succ, List.getElem_cons_zero, List.setIfInBounds_toArray, List.set_cons_zero, List.set_cons_succ]
  have hHeld := (show (fun w' => Two2 w w' b off x y ∧ CellsL w' b1 off1 1 true true 0 1 2) _ from ⟨hHeld, hz⟩)
  refine heldMono (S' := fun w' => Two2 w w' b off x y ∧ CellsL w' b1 off1 1 true true 0 1 2) (fun _ h => h.1) _ _ _ _ ?_
  refine wpAnyH_take (i := 13) (oi := _) (v := ?_) rfl (by kernel_rfl) (by kernel_rfl) (by kernel_rfl) (fun _ _ _ h => h) (Or.inl ⟨by rfl, ?_⟩) hHeld ?_
  rotate_left
  · intro w hSw; obtain ⟨⟨⟨x0, x1, x2, x3, x4, x5⟩, ⟨y0, y1, y2, y3, y4, y5⟩, hl, hB⟩, z0, z1, z2, z3, z4, z5⟩ := hSw; go_simp; try with_reducible rfl
  simp only [Act.put, List.getElem_toArray, List.getElem_cons_succ, List.getElem_cons_zero, List.setIfInBounds_toArray, List.set_cons_zero, List.set_cons_succ]
  refine wpAnyH_take (i := 14) (oi := _) (v := ?_) rfl (by kernel_rfl) (by kernel_rfl) (by kernel_rfl) (fun _ _ _ h => h) (Or.inl ⟨by rfl, ?_⟩) hHeld ?_
  rotate_left
  · intro w hSw; obtain ⟨⟨⟨x0, x1, x2, x3, x4, x5⟩, ⟨y0, y1, y2, y3, y4, y5⟩, hl, hB⟩, z0, z1, z2, z3, z4, z5⟩ := hSw; go_simp; try with_reducible rfl
  simp only [Act.put, List.getElem_toArray, List.getElem_cons_succ, List.getElem_cons_zero, List.setIfInBounds_toArray, List.set_cons_zero, List.set_cons_succ]
  refine wpAnyH_take (i := 15) (oi := _) (v := ?_) rfl (by kernel_rfl) (by kernel_rfl) (by kernel_rfl) (fun _ _ _ h => h) (Or.inl ⟨by rfl, ?_⟩) hHeld ?_
  rotate_left
  · intro w hSw; obtain ⟨⟨⟨x0, x1, x2, x3, x4, x5⟩, ⟨y0, y1, y2, y3, y4, y5⟩, hl, hB⟩, z0, z1, z2, z3, z4, z5⟩ := hSw; go_simp; try with_reducible rfl
  simp only [Act.put, List.getElem_toArray, List.getElem_cons_succ, List.getElem_cons_zero, List.setIfInBounds_toArray, List.set_cons_zero, List.set_cons_succ]
  refine wpAnyH_take (i := 16) (oi := _) (v := ?_) rfl (by kernel_rfl) (by kernel_rfl) (by kernel_rfl) (fun _ _ _ h => h) (Or.inl ⟨by rfl, ?_⟩) hHeld ?_
  rotate_left
  · intro w hSw; obtain ⟨⟨⟨x0, x1, x2, x3, x4, x5⟩, ⟨y0, y1, y2, y3, y4, y5⟩, hl, hB⟩, z0, z1, z2, z3, z4, z5⟩ := hSw; go_simp; try with_reducible rfl
  simp only [Act.put, List.getElem_toArray, List.getElem_cons_succ, List.getElem_cons_zero, List.setIfInBounds_toArray, List.set_cons_zero, List.set_cons_succ]
  refine wpAnyH_take (i := 17) (oi := _) (v := ?_) rfl (by kernel_rfl) (by kernel_rfl) (by kernel_rfl) (fun _ _ _ h => h) (Or.inl ⟨by rfl, ?_⟩) hHeld ?_
  rotate_left
  · intro w hSw; obtain ⟨⟨⟨x0, x1, x2, x3, x4, x5⟩, ⟨y0, y1, y2, y3, y4, y5⟩, hl, hB⟩, z0, z1, z2, z3, z4, z5⟩ := hSw; go_simp; try with_reducible rfl
  simp only [Act.put, List.getElem_toArray, List.getElem_cons_succ, List.getElem_cons_zero, List.setIfInBounds_toArray, List.set_cons_zero, List.set_cons_succ]
  refine wpAnyH_take (i := 18) (oi := _) (v := ?_) rfl (by kernel_rfl) (by kernel_rfl) (by kernel_rfl) (fun _ _ _ h => h) (Or.inl ⟨by rfl, ?_⟩) hHeld ?_
  rotate_left
  · intro w hSw; obtain ⟨⟨⟨x0, x1, x2, x3, x4, x5⟩, ⟨y0, y1, y2, y3, y4, y5⟩, hl, hB⟩, z0, z1, z2, z3, z4, z5⟩ := hSw; go_simp; try with_reducible rfl
  simp only [Act.put, List.getElem_toArray, List.getElem_cons_succ, List.getElem_cons_zero, List.setIfInBounds_toArray, List.set_cons_zero, List.set_cons_succ]
  refine wpAnyH_take (i := 19) (oi := _) (v := ?_) rfl (by kernel_rfl) (by kernel_rfl) (by kernel_rfl) (fun _ _ _ h => h) (Or.inl ⟨by rfl, ?_⟩) hHeld ?_
  rotate_left
  · intro w hSw; obtain ⟨⟨⟨x0, x1, x2, x3, x4, x5⟩, ⟨y0, y1, y2, y3, y4, y5⟩, hl, hB⟩, z0, z1, z2, z3, z4, z5⟩ := hSw; go_simp; try with_reducible rfl
  simp only [Act.put, List.getElem_toArray, List.getElem_cons_succ, List.getElem_cons_zero, List.setIfInBounds_toArray, List.set_cons_zero, List.set_cons_succ]
  refine wpAnyH_take (i := 20) (oi := _) (v := ?_) rfl (by kernel_rfl) (by kernel_rfl) (by kernel_rfl) (fun _ _ _ h => h) (Or.inl ⟨by rfl, ?_⟩) hHeld ?_
  rotate_left
  · intro w hSw; obtain ⟨⟨⟨x0, x1, x2, x3, x4, x5⟩, ⟨y0, y1, y2, y3, y4, y5⟩, hl, hB⟩, z0, z1, z2, z3, z4, z5⟩ := hSw; go_simp; try with_reducible rfl
  simp only [Act.put, List.getElem_toArray, List.getElem_cons_succ, List.getElem_cons_zero, List.setIfInBounds_toArray, List.set_cons_zero, List.set_cons_succ]
  refine wpAnyH_ready (rs := [21]) (by kernel_rfl) (by simp) (AllReadyH.cons (o := _) rfl (fun K hK => ?_) AllReadyH.nil)
  go_simp
  go_at_call 16
  refine (rnew_two _).mono ?_
  rintro e w2 ⟨b2, off2, c2, rfl, ⟨_, hu⟩, hb2⟩
  refine hK.out _ _ ⟨hHeld.1.keep hb2, hHeld.2.keep hb2 hHeld.2.lt⟩ (fun hHeld => ?_)
  clear hK K
  try simp only [Act.put, List.getElem_toArray, List.getElem_cons_succ, List.getElem_cons_zero, List.setIfInBounds_toArray, List.set_cons_zero, List.set_cons_succ]
  have hHeld := (show (fun w' => (Two2 w w' b off x y ∧ CellsL w' b1 off1 1 true true 0 1 2) ∧ CellsL w' b2 (off2 + 6) 2 true false 0 0 2) _ from ⟨hHeld, hu⟩)
  refine heldMono (S' := fun w' => (Two2 w w' b off x y ∧ CellsL w' b1 off1 1 true true 0 1 2) ∧ CellsL w' b2 (off2 + 6) 2 true false 0 0 2) (fun _ h => h.1) _ _ _ _ ?_
  refine wpAnyH_take (i := 22) (oi := _) (v := ?_) rfl (by kernel_rfl) (by kernel_rfl) (by kernel_rfl) (fun _ _ _ h => h) (Or.inl ⟨by rfl, ?_⟩) hHeld ?_
  rotate_left
  · intro w hSw; obtain ⟨⟨⟨⟨x0, x1, x2, x3, x4, x5⟩, ⟨y0, y1, y2, y3, y4, y5⟩, hl, hB⟩, z0, z1, z2, z3, z4, z5⟩, u0, u1, u2, u3, u4, u5⟩ := hSw; go_simp; try with_reducible rfl
  simp only [Act.put, List.getElem_toArray, List.getElem_cons_succ, List.getElem_cons_zero, List.setIfInBounds_toArray, List.set_cons_zero, List.set_cons_succ]
  refine wpAnyH_take (i := 23) (oi := _) (v := ?_) rfl (by kernel_rfl) (by kernel_rfl) (by kernel_rfl) (fun _ _ _ h => h) (Or.inl ⟨by rfl, ?_⟩) hHeld ?_
  rotate_left
  · intro w hSw; obtain ⟨⟨⟨⟨x0, x1, x2, x3, x4, x5⟩, ⟨y0, y1, y2, y3, y4, y5⟩, hl, hB⟩, z0, z1, z2, z3, z4, z5⟩, u0, u1, u2, u3, u4, u5⟩ := hSw; go_simp; try with_reducible rfl
  simp only [Act.put, List.getElem_toArray, List.getElem_cons_succ, List.getElem_cons_zero, List.setIfInBounds_toArray, List.set_cons_zero, List.set_cons_succ]
  refine wpAnyH_take (i := 24) (oi := _) (v := ?_) rfl (by kernel_rfl) (by kernel_rfl) (by kernel_rfl) (fun _ _ _ h => h) (Or.inl ⟨by rfl, ?_⟩) hHeld ?_
  rotate_left
  · intro w hSw; obtain ⟨⟨⟨⟨x0, x1, x2, x3, x4, x5⟩, ⟨y0, y1, y2, y3, y4, y5⟩, hl, hB⟩, z0, z1, z2, z3, z4, z5⟩, u0, u1, u2, u3, u4, u5⟩ := hSw; go_simp; try with_reducible rfl
  simp only [Act.put, List.getElem_toArray, List.getElem_cons_succ, List.getElem_cons_zero, List.setIfInBounds_toArray, List.set_cons_zero, List.set_cons_succ]
  refine wpAnyH_take (i := 25) (oi := _) (v := ?_) rfl (by kernel_rfl) (by kernel_rfl) (by kernel_rfl) (fun _ _ _ h => h) (Or.inl ⟨by rfl, ?_⟩) hHeld ?_
  rotate_left
  · intro w hSw; obtain ⟨⟨⟨⟨x0, x1, x2, x3, x4, x5⟩, ⟨y0, y1, y2, y3, y4, y5⟩, hl, hB⟩, z0, z1, z2, z3, z4, z5⟩, u0, u1, u2, u3, u4, u5⟩ := hSw; go_simp; try with_reducible rfl
  simp only [Act.put, List.getElem_toArray, List.getElem_cons_succ, List.getElem_cons_zero, List.setIfInBounds_toArray, List.set_cons_zero, List.set_cons_succ]
  refine wpAnyH_done (by kernel_rfl) ?_ _
  have hbB := hHeld.1.1.2.2.2
  clear hHeld hb1 hb2 hz hu q1 q2
  go_wp2_with fail
  clear t1 t2 t3 t4 t5 t6 t7 t8 h2
  have hu : Tryd.prog.cellsOf 31 = 6 := by kernel_rfl
  go_loopw [33] (fun i wr => ∃ k : Nat, k ≤ n ∧ i = .int .i64 k ∧ rowOk l k = true ∧ Below w.heap.size w wr)
    (fun i _ => n - (intOf i).toNat)
  case atStart => exact ⟨0, Nat.zero_le _, rfl, rfl, hbB⟩
  case round =>
    obtain ⟨k, hk, rfl, hq, hb⟩ := hrel
    clear hbB
    by_cases hlt : k < n
    · have e1 := List.getElem?_eq_getElem (l := l) (i := k) (by omega)
      generalize l[k]'(by omega) = z at e1
      have hs := rowOk_step e1
      rw [hq, Bool.true_and] at hs
      have hfalse := fun h : okAt l k z = false => Lib.hid (rowOk_false (hs.trans h) (show k + 1 ≤ n from hlt))
      have htrue := fun h : okAt l k z = true => Lib.hid (hs.trans h)
      obtain ⟨b', off', e, hbl, g⟩ := rels_cells hR e1
      injection e with e; injection e with e2 e3; subst e2 e3
      obtain ⟨g10, g11, g12, g13, g14, g15⟩ := g.below hb hbl
      have m1 := fun w => rmay_any z.a z.e z.w z.t z.r w
      have i1 := fun w => is_any z.i 1 1048578 w
      simp only [inn1] at i1
      unfold trV at m1
      clear hs hq e1 g
      cases k with
      | zero =>
        rw [okAt_0] at hfalse htrue
        simp only [Nat.zero_mul, Nat.add_zero] at g10 g11 g12 g13 g14 g15
        have hkey : (mayE z.w z.t z.r = 2 ∧ okRel z = false) ∨ (mayE z.w z.t z.r = 231 ∧ okRel z = false) ∨ (mayE z.w z.t z.r = 0 ∧ decide (1 ≤ z.i ∧ z.i ≤ 1048578) = false ∧ okRel z = false) ∨ (mayE z.w z.t z.r = 0 ∧ decide (1 ≤ z.i ∧ z.i ≤ 1048578) = true ∧ okRel z = true) := by
          rcases rok_cases z with ⟨h1 | h1, h2⟩ | h | h
          · exact .inl ⟨h1, h2⟩
          · exact .inr (.inl ⟨h1, h2⟩)
          · exact .inr (.inr (.inl h))
          · exact .inr (.inr (.inr h))
        clear hR
        rcases hkey with ⟨h1, h3⟩ | ⟨h1, h3⟩ | ⟨h1, h2, h3⟩ | ⟨h1, h2, h3⟩
        all_goals
          first | have hF := hfalse h3 | have hF := htrue h3
          clear hfalse htrue h3
          rw [h1] at m1
          clear h1
          try rw [h2] at i1
          try clear h2
          go_wp2_with fail
          obtain ⟨W0, hW0⟩ : ∃ W0, W0 = wr.alloc (Obj.cells #[.int .i64 z.i, .bool z.a, .bool z.e, .int .i64 z.w, .int .i64 z.t, .int .i64 z.r] 31) := ⟨_, rfl⟩
          obtain ⟨hb0, hsz, c0, c1, c2, c3, c4, c5⟩ := new6 hW0
          have hbb := hb.trans (hb0.mono hb.size)
          have C0 := fun p : Later W0 => p.cell c0 hsz
          have C1 := fun p : Later W0 => p.cell c1 hsz
          have C2 := fun p : Later W0 => p.cell c2 hsz
          have C3 := fun p : Later W0 => p.cell c3 hsz
          have C4 := fun p : Later W0 => p.cell c4 hsz
          have C5 := fun p : Later W0 => p.cell c5 hsz
          rw [← hW0]
          clear hW0 c0 c1 c2 c3 c4 c5 g10 g11 g12 g13 g14 g15
          refine wp_later (by kernel_rfl) (by kernel_rfl) ?_
          repeat (go_big_quiet_step (first
            | (go_at_call 25; exact later_same (i1 _))
            | (go_at_call 13; exact later_below (m1 _))))
          refine wpQuiet_nil ?_
          rintro _ ⟨p, rfl⟩
          have hbp1 := hbb.trans (p.h.mono hbb.size)
          clear C0 C1 C2 C3 C4 C5
          go_wp2_with fail
          first
            | (go_roundw
               case rel => exact ⟨1, by omega, rfl, hF.out, hbp1⟩
               case measure => simp [intOf]; omega)
            | (try rw [Exit.noGoto_ret]
               go_ret
               exact ⟨ret_bool hF.out.symm, hbp1⟩)
      | succ j =>
        have hy : l[j]? = some (l[j]'(by omega)) := List.getElem?_eq_getElem _
        generalize l[j]'(by omega) = y' at hy
        rw [okAt_s, keyAt_some hy] at hfalse htrue
        obtain ⟨b', off', e, _, gy⟩ := rels_cells hR hy
        injection e with e; injection e with e2 e3; subst e2 e3
        have y0 := (gy.below hb hbl).1
        clear gy hy hR
        have hkey : (mayE z.w z.t z.r = 2 ∧ (okRel z && decide (y'.i < z.i)) = false) ∨ (mayE z.w z.t z.r = 231 ∧ (okRel z && decide (y'.i < z.i)) = false) ∨ (mayE z.w z.t z.r = 0 ∧ decide (1 ≤ z.i ∧ z.i ≤ 1048578) = false ∧ (okRel z && decide (y'.i < z.i)) = false) ∨
            (mayE z.w z.t z.r = 0 ∧ decide (1 ≤ z.i ∧ z.i ≤ 1048578) = true ∧ decide (z.i ≤ y'.i) = true ∧ (okRel z && decide (y'.i < z.i)) = false) ∨ (mayE z.w z.t z.r = 0 ∧ decide (1 ≤ z.i ∧ z.i ≤ 1048578) = true ∧ decide (z.i ≤ y'.i) = false ∧ (okRel z && decide (y'.i < z.i)) = true) := by
          rcases rok_cases z with ⟨h1 | h1, h2⟩ | ⟨h1, h2, h3⟩ | ⟨h1, h2, h3⟩
          · exact .inl ⟨h1, by rw [h2]; rfl⟩
          · exact .inr (.inl ⟨h1, by rw [h2]; rfl⟩)
          · exact .inr (.inr (.inl ⟨h1, h2, by rw [h3]; rfl⟩))
          · by_cases h : z.i ≤ y'.i
            · exact .inr (.inr (.inr (.inl ⟨h1, h2, decide_eq_true h, by rw [h3, decide_eq_false (by omega)]; rfl⟩)))
            · exact .inr (.inr (.inr (.inr ⟨h1, h2, decide_eq_false h, by rw [h3, decide_eq_true (by omega)]; rfl⟩)))
        have hwr : IntKind.i64.wrap ((j : Int) + 1 - 1) = j := by rw [IntKind.wrap_i64]; omega
        have ht4 : (0 : Int) < (j : Int) + 1 := by omega
        have ht5 : j < n := by omega
        have ht6 : (j : Int) < (n : Int) := by omega
        rcases hkey with ⟨h1, h3⟩ | ⟨h1, h3⟩ | ⟨h1, h2, h3⟩ | ⟨h1, h2, h4, h3⟩ | ⟨h1, h2, h4, h3⟩
        all_goals
          first | have hF := hfalse h3 | have hF := htrue h3
          clear hfalse htrue h3
          rw [h1] at m1
          clear h1
          try rw [h2] at i1
          try clear h2
          go_wp2_with fail
          obtain ⟨W0, hW0⟩ : ∃ W0, W0 = wr.alloc (Obj.cells #[.int .i64 z.i, .bool z.a, .bool z.e, .int .i64 z.w, .int .i64 z.t, .int .i64 z.r] 31) := ⟨_, rfl⟩
          obtain ⟨hb0, hsz, c0, c1, c2, c3, c4, c5⟩ := new6 hW0
          have hbb := hb.trans (hb0.mono hb.size)
          have hbz : b < wr.heap.size := Nat.lt_of_lt_of_le hbl hb.size
          have C0 := fun p : Later W0 => p.cell c0 hsz
          have C1 := fun p : Later W0 => p.cell c1 hsz
          have C2 := fun p : Later W0 => p.cell c2 hsz
          have C3 := fun p : Later W0 => p.cell c3 hsz
          have C4 := fun p : Later W0 => p.cell c4 hsz
          have C5 := fun p : Later W0 => p.cell c5 hsz
          have Y0 := fun p : Later W0 => p.cell (cell_below' hb0 y0 hbz) (by omega)
          rw [← hW0]
          clear hW0 c0 c1 c2 c3 c4 c5 g10 g11 g12 g13 g14 g15 y0
          refine wp_later (by kernel_rfl) (by kernel_rfl) ?_
          repeat (go_big_quiet_step (first
            | (go_at_call 25; exact later_same (i1 _))
            | (go_at_call 13; exact later_below (m1 _))))
          refine wpQuiet_nil ?_
          rintro _ ⟨p, rfl⟩
          have hbp1 := hbb.trans (p.h.mono hbb.size)
          clear C0 C1 C2 C3 C4 C5 Y0
          go_wp2_with fail
          first
            | (go_roundw
               case rel => exact ⟨j + 1 + 1, by omega, by go_num, hF.out, hbp1⟩
               case measure => simp [intOf]; omega)
            | (try rw [Exit.noGoto_ret]
               go_ret
               exact ⟨ret_bool hF.out.symm, hbp1⟩)
    · have : k = n := by omega
      subst this
      have HQ := Lib.hid hq
      clear hq hR
      go_wp2_with fail
      try rw [Exit.noGoto_ret]
      go_ret
      exact ⟨ret_bool HQ.out.symm, hb⟩
theorem Two2.of {w : World} {b off n : Nat} {l : List Rel} {x y : Rel} (hR : Reads w w.heap.size 6 (some ⟨b, off, none⟩) n (rels l)) (hx : l[0]? = some x) (hy : l[1]? = some y) : Two2 w w b off x y := by
  obtain ⟨b1, o1, e, hb, g⟩ := rels_cells hR hx
  injection e with e; injection e with e2 e3; subst e2 e3
  obtain ⟨b1, o1, e, _, g2⟩ := rels_cells hR hy
  injection e with e; injection e with e2 e3; subst e2 e3
  rw [Nat.zero_mul, Nat.add_zero] at g
  rw [Nat.one_mul] at g2
  exact ⟨g, g2, hb, Below.refl _ _⟩
set_option maxRecDepth 100000 in
set_option maxHeartbeats 4000000 in
theorem rright_any (A : Option Addr) (n c : Nat) (l : List Rel) (w : World) (hR : Reads w w.heap.size 6 A n (rels l)) (hn : n ≤ 65536) :
    Calls Tryd.prog 11 #[.slice A n c] w fun e w' => e = .returned (.bool (right l)) ∧ Below w.heap.size w w' := by
  have hl : l.length = n := by have := hR.1; rw [rels_len] at this; omega
  unfold right
  rw [hl]
  by_cases h1 : n < 2
  · rw [decide_eq_false (show ¬ (2 ≤ n ∧ n ≤ 200) by omega), Bool.false_and]
    have t1 : decide ((n : Int) < 2) = true := decide_eq_true (by omega)
    clear hR
    go_enter Tryd.func11, Tryd.ntmps11
    go_wp2_with fail
    refine wp_later (by kernel_rfl) (by kernel_rfl) ?_
    repeat (go_big_quiet_step (fail))
    refine wpQuiet_nil ?_
    rintro _ ⟨p, rfl⟩
    have hbp1 := p.h
    go_wp2_with fail
    go_ret
    exact ⟨rfl, hbp1⟩
  · by_cases h2 : 200 < n
    · rw [decide_eq_false (show ¬ (2 ≤ n ∧ n ≤ 200) by omega), Bool.false_and]
      have t1 : decide ((n : Int) < 2) = false := decide_eq_false (by omega)
      have t2 : decide (200 < (n : Int)) = true := decide_eq_true (by omega)
      clear hR
      go_enter Tryd.func11, Tryd.ntmps11
      go_wp2_with fail
      refine wp_later (by kernel_rfl) (by kernel_rfl) ?_
      repeat (go_big_quiet_step (fail))
      refine wpQuiet_nil ?_
      rintro _ ⟨p, rfl⟩
      have hbp1 := p.h
      go_wp2_with fail
      go_ret
      exact ⟨rfl, hbp1⟩
    · have e1 := List.getElem?_eq_getElem (l := l) (i := 0) (by omega)
      have e2 := List.getElem?_eq_getElem (l := l) (i := 1) (by omega)
      generalize l[0]'(by omega) = x at e1
      generalize l[1]'(by omega) = y at e2
      obtain ⟨b, off, rfl, _⟩ := rels_cells hR e1
      have h3 := Two2.of hR e1 e2
      obtain ⟨m, rfl⟩ : ∃ m, n = m + 2 := ⟨n - 2, by omega⟩
      rw [right_split l m x y e1 e2, decide_eq_true (show 2 ≤ m + 2 ∧ m + 2 ≤ 200 by omega), Bool.true_and]
      cases hx : releq x f0
      · exact right_c b off _ c l x y w h3 (by omega) (by omega) hx
      · cases hy : releq y f1
        · exact right_d b off _ c l x y w h3 (by omega) (by omega) hx hy
        · exact right_e b off _ c l x y w hR h3 (by omega) (by omega) hx hy
end Go.Proofs.YtibjelonabhcmaaDoor
