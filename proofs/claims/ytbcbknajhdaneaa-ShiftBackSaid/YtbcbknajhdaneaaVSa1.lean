/- What is proved: the contracts of the shift laws' own and spoil. -/
import Derived.Test.YtbcbknajhdaneaaVTe4
import Derived.Test.YtbcbknajhdaneaaVOg
namespace Go.Proofs.Ytbcbknajhdaneaa
open Go.RowKit
set_option linter.unusedVariables false
set_option linter.unusedSimpArgs false
def ownG (l : List PC) : List PC := (l.take 14).map fun p => (p.1, p.2.1, p.2.2.take 150)
def ownQ (p : PT) : PT := (p.1.take 14, ownG p.2.1, p.2.2.take 30)
theorem ownG_lt {L : List PC} {k : Nat} {x : PC} (h : L[k]? = some x) (hk : k < 14) : ownG (L.take (k + 1)) = ownG (L.take k) ++ [(x.1, x.2.1, x.2.2.take 150)] := by
  unfold ownG
  rw [take_take_le _ _ _ (by omega), take_take_le _ _ _ (by omega), take_snoc h, List.map_append]; rfl
theorem ownG_ge (L : List PC) {k : Nat} (hk : ¬ k < 14) : ownG (L.take (k + 1)) = ownG (L.take k) := by
  unfold ownG
  rw [List.take_take, List.take_take, Nat.min_eq_left (by omega), Nat.min_eq_left (by omega)]
theorem ownG_le (L : List PC) : (ownG L).length ≤ 14 := by unfold ownG; rw [List.length_map, List.length_take]; omega
set_option maxRecDepth 100000 in
set_option maxHeartbeats 16000000 in
theorem own11_any (t : Tab) (w : World) (h : TabOk w w.heap.size t) : Calls Try.prog 49 #[t.V] w (OwnT (ownQ t.p) w) := by
  have hn : t.Cn ≤ maxLen := Nat.le_trans h.csc.1 h.csc.2
  simp only [maxLen] at hn
  obtain ⟨i1, hj0, hj1, hj2, hj3⟩ := info_parts info_col
  obtain ⟨W0, hW0⟩ : ∃ W0, W0 = (w.alloc (.cells #[.slice t.TA t.Tn t.Tc, .slice t.CA t.Cn t.Cc, .slice t.EA t.En t.Ec] 25)).alloc (.cells #[.slice none 0 0, .slice none 0 0, .slice none 0 0] 25) := ⟨_, rfl⟩
  have hB : Below w.heap.size w W0 := by rw [hW0]; exact ((Below.refl w.heap.size w).alloc (Nat.le_refl _) _).alloc (by simp) _
  have hsz : W0.heap.size = w.heap.size + 2 := by rw [hW0]; simp
  have k0 : Blk W0 w.heap.size 25 #[.slice t.TA t.Tn t.Tc, .slice t.CA t.Cn t.Cc, .slice t.EA t.En t.Ec] := by rw [hW0]; exact (Blk.new w _ _).alloc _
  have k1 : Blk W0 (w.heap.size + 1) 25 #[.slice none 0 0, .slice none 0 0, .slice none 0 0] := by
    rw [hW0]
    have h := Blk.new (w.alloc (.cells #[.slice t.TA t.Tn t.Tc, .slice t.CA t.Cn t.Cc, .slice t.EA t.En t.Ec] 25)) 25 #[.slice none 0 0, .slice none 0 0, .slice none 0 0]
    rw [World.size_alloc] at h
    exact h
  have hT := (h.keep hB).more hB.size
  have hlen := h.len
  obtain ⟨q1, hq1, hr1, hm1, hl1⟩ := cut_q 14 hT.ty
  obtain ⟨q2, hq2, hr2, hm2, hl2⟩ := cut_q 30 hT.es
  have c1 := fun (c : Nat) (W : World) (hb : Below W0.heap.size W0 W) => clone_d t.TA q1 c (t.ty.take 14) W ((hr1.below hb).more hb.size) (by omega)
  have c2 := fun (c : Nat) (W : World) (hb : Below W0.heap.size W0 W) => clone_d t.EA q2 c (t.es.take 30) W ((hr2.below hb).more hb.size) (by omega)
  have hw1 : ∀ y ∈ t.ty.take 14, Word y := fun y hy => h.tyw y (List.mem_of_mem_take hy)
  have hw2 : ∀ y ∈ t.es.take 30, Word y := fun y hy => h.esw y (List.mem_of_mem_take hy)
  have hcs := h.cs
  have hok := h.csok
  have d1 := h.tyc.1
  have d2 := h.esc.1
  obtain ⟨⟨s0', s1', s2'⟩, _⟩ := blk_cells3 k0
  unfold Tab.p ownQ
  unfold OwnD at c1 c2
  obtain ⟨TA, Tn, Tc, ty, CA, Cn, Cc, F, EA, En, Ec, es⟩ := t
  unfold Tab.V
  simp only at *
  generalize ty.take 14 = l1 at *
  generalize es.take 30 = l2 at *
  have h0 : w.heap.size < W0.heap.size := by omega
  have HCC := Lib.hid (fun (W : World) (hb : Below W0.heap.size W0 W) => And.intro (cell_below' hb s0' h0) (And.intro (cell_below' hb s1' h0) (cell_below' hb s2' h0)))
  have L2 := Lib.hid hlen.2.1
  have HL1 := Lib.hid hl1
  have HL2 := Lib.hid hl2
  have HW1 := Lib.hid hw1
  have HW2 := Lib.hid hw2
  have HW := Lib.hid hW0
  have HB := Lib.hid hB
  have HS := Lib.hid hsz
  have HK1 := Lib.hid k1
  have HCS := Lib.hid hcs
  have HOK := Lib.hid hok
  clear h hT hlen hr1 hr2 hl1 hl2 hw1 hw2 hcs hok hW0 hB hsz k0 k1
  have e1 : (if (14 : Int) < (Tn : Int) then (14 : Int) else (Tn : Int)) = (q1 : Int) := by split <;> omega
  have e2 : (if (30 : Int) < (En : Int) then (30 : Int) else (En : Int)) = (q2 : Int) := by split <;> omega
  have f1 : (q1 : Int) ≤ (Tc : Int) := by omega
  have f2 : (q2 : Int) ≤ (Ec : Int) := by omega
  have HQ1 := Lib.hid hq1
  have HQ2 := Lib.hid hq2
  clear hq1 hq2
  go_enter Try.func49, Try.ntmps49
  go_upto_region 1 with fail
  rw [← HW.out]
  refine wp_region_held_drew (S := fun w' => w'.cell? ⟨w.heap.size, 0, none⟩ = some (.slice TA Tn Tc) ∧ w'.cell? ⟨w.heap.size, 2, none⟩ = some (.slice EA En Ec)) (by kernel_rfl) ⟨s0', s2'⟩ (fun hHeld => ?_)
  refine wpAnyH_take (i := 0) (oi := _) (v := ?_) rfl (by kernel_rfl) (by kernel_rfl) (by kernel_rfl) (fun _ _ _ h => h) (Or.inl ⟨by rfl, ?_⟩) hHeld ?_
  rotate_left
  · intro w hSw; obtain ⟨s0, s1⟩ := hSw; go_simp; try with_reducible rfl
  simp only [Act.put, List.getElem_toArray, List.getElem_cons_succ, List.getElem_cons_zero, List.setIfInBounds_toArray, List.set_cons_zero, List.set_cons_succ]
  refine wpAnyH_take (i := 1) (oi := _) (v := ?_) rfl (by kernel_rfl) (by kernel_rfl) (by kernel_rfl) (fun _ _ _ h => h) (Or.inl ⟨by rfl, ?_⟩) hHeld ?_
  rotate_left
  · intro w hSw; obtain ⟨s0, s1⟩ := hSw; go_simp; try with_reducible rfl
  simp only [Act.put, List.getElem_toArray, List.getElem_cons_succ, List.getElem_cons_zero, List.setIfInBounds_toArray, List.set_cons_zero, List.set_cons_succ]
  refine wpAnyH_take (i := 2) (oi := _) (v := ?_) rfl (by kernel_rfl) (by kernel_rfl) (by kernel_rfl) (fun _ _ _ h => h) (Or.inl ⟨by rfl, ?_⟩) hHeld ?_
  rotate_left
  · intro w hSw; obtain ⟨s0, s1⟩ := hSw; go_simp; try with_reducible rfl
  simp only [Act.put, List.getElem_toArray, List.getElem_cons_succ, List.getElem_cons_zero, List.setIfInBounds_toArray, List.set_cons_zero, List.set_cons_succ]
  refine wpAnyH_take (i := 3) (oi := _) (v := ?_) rfl (by kernel_rfl) (by kernel_rfl) (by kernel_rfl) (fun _ _ _ h => h) (Or.inl ⟨by rfl, ?_⟩) hHeld ?_
  rotate_left
  · intro w hSw; obtain ⟨s0, s1⟩ := hSw; go_simp; try with_reducible rfl
  simp only [Act.put, List.getElem_toArray, List.getElem_cons_succ, List.getElem_cons_zero, List.setIfInBounds_toArray, List.set_cons_zero, List.set_cons_succ]
  refine wpAnyH_take (i := 4) (oi := _) (v := ?_) rfl (by kernel_rfl) (by kernel_rfl) (by kernel_rfl) (fun _ _ _ h => h) (Or.inl ⟨by rfl, ?_⟩) hHeld ?_
  rotate_left
  · intro w hSw; obtain ⟨s0, s1⟩ := hSw; go_simp; try with_reducible rfl
  simp only [Act.put, List.getElem_toArray, List.getElem_cons_succ, List.getElem_cons_zero, List.setIfInBounds_toArray, List.set_cons_zero, List.set_cons_succ]
  refine wpAnyH_take (i := 5) (oi := _) (v := ?_) rfl (by kernel_rfl) (by kernel_rfl) (by kernel_rfl) (fun _ _ _ h => h) (Or.inl ⟨by rfl, ?_⟩) hHeld ?_
  rotate_left
  · intro w hSw; obtain ⟨s0, s1⟩ := hSw; go_simp; try with_reducible rfl
  simp only [Act.put, List.getElem_toArray, List.getElem_cons_succ, List.getElem_cons_zero, List.setIfInBounds_toArray, List.set_cons_zero, List.set_cons_succ]
  refine wpAnyH_take (i := 6) (oi := _) (v := ?_) rfl (by kernel_rfl) (by kernel_rfl) (by kernel_rfl) (fun _ _ _ h => h) (Or.inl ⟨by rfl, ?_⟩) hHeld ?_
  rotate_left
  · intro w hSw; obtain ⟨s0, s1⟩ := hSw; go_simp; try with_reducible rfl
  simp only [Act.put, List.getElem_toArray, List.getElem_cons_succ, List.getElem_cons_zero, List.setIfInBounds_toArray, List.set_cons_zero, List.set_cons_succ]
  refine wpAnyH_take (i := 8) (oi := _) (v := ?_) rfl (by kernel_rfl) (by kernel_rfl) (by kernel_rfl) (fun _ _ _ h => h) (Or.inl ⟨by rfl, ?_⟩) hHeld ?_
  rotate_left
  · intro w hSw; obtain ⟨s0, s1⟩ := hSw; go_simp; try with_reducible rfl
  simp only [Act.put, List.getElem_toArray, List.getElem_cons_succ, List.getElem_cons_zero, List.setIfInBounds_toArray, List.set_cons_zero, List.set_cons_succ]
  refine wpAnyH_take (i := 9) (oi := _) (v := ?_) rfl (by kernel_rfl) (by kernel_rfl) (by kernel_rfl) (fun _ _ _ h => h) (Or.inl ⟨by rfl, ?_⟩) hHeld ?_
  rotate_left
  · intro w hSw; obtain ⟨s0, s1⟩ := hSw; go_simp; try with_reducible rfl
  simp only [Act.put, List.getElem_toArray, List.getElem_cons_succ, List.getElem_cons_zero, List.setIfInBounds_toArray, List.set_cons_zero, List.set_cons_succ]
  refine wpAnyH_take (i := 10) (oi := _) (v := ?_) rfl (by kernel_rfl) (by kernel_rfl) (by kernel_rfl) (fun _ _ _ h => h) (Or.inl ⟨by rfl, ?_⟩) hHeld ?_
  rotate_left
  · intro w hSw; obtain ⟨s0, s1⟩ := hSw; go_simp; try with_reducible rfl
  simp only [Act.put, List.getElem_toArray, List.getElem_cons_succ, List.getElem_cons_zero, List.setIfInBounds_toArray, List.set_cons_zero, List.set_cons_succ]
  refine wpAnyH_take (i := 11) (oi := _) (v := ?_) rfl (by kernel_rfl) (by kernel_rfl) (by kernel_rfl) (fun _ _ _ h => h) (Or.inl ⟨by rfl, ?_⟩) hHeld ?_
  rotate_left
  · intro w hSw; obtain ⟨s0, s1⟩ := hSw; go_simp; try with_reducible rfl
  simp only [Act.put, List.getElem_toArray, List.getElem_cons_succ, List.getElem_cons_zero, List.setIfInBounds_toArray, List.set_cons_zero, List.set_cons_succ]
  refine wpAnyH_take (i := 12) (oi := _) (v := ?_) rfl (by kernel_rfl) (by kernel_rfl) (by kernel_rfl) (fun _ _ _ h => h) (Or.inl ⟨by rfl, ?_⟩) hHeld ?_
  rotate_left
  · intro w hSw; obtain ⟨s0, s1⟩ := hSw; go_simp; try with_reducible rfl
  simp only [Act.put, List.getElem_toArray, List.getElem_cons_succ, List.getElem_cons_zero, List.setIfInBounds_toArray, List.set_cons_zero, List.set_cons_succ]
  refine wpAnyH_take (i := 13) (oi := _) (v := ?_) rfl (by kernel_rfl) (by kernel_rfl) (by kernel_rfl) (fun _ _ _ h => h) (Or.inl ⟨by rfl, ?_⟩) hHeld ?_
  rotate_left
  · intro w hSw; obtain ⟨s0, s1⟩ := hSw; go_simp; try with_reducible rfl
  simp only [Act.put, List.getElem_toArray, List.getElem_cons_succ, List.getElem_cons_zero, List.setIfInBounds_toArray, List.set_cons_zero, List.set_cons_succ]
  refine wpAnyH_take (i := 14) (oi := _) (v := ?_) rfl (by kernel_rfl) (by kernel_rfl) (by kernel_rfl) (fun _ _ _ h => h) (Or.inl ⟨by rfl, ?_⟩) hHeld ?_
  rotate_left
  · intro w hSw; obtain ⟨s0, s1⟩ := hSw; go_simp; try with_reducible rfl
  simp only [Act.put, List.getElem_toArray, List.getElem_cons_succ, List.getElem_cons_zero, List.setIfInBounds_toArray, List.set_cons_zero, List.set_cons_succ]
  refine Og.start (fr := fun y => { tmps := #[.agg #[.slice TA Tn Tc, .slice CA Cn Cc, .slice EA En Ec], .pointer (some ⟨w.heap.size, 0, none⟩), .pointer (some ⟨w.heap.size + 1, 0, none⟩), y 17, undef, undef, .pointer (some ⟨w.heap.size, 0, none⟩), .slice TA Tn Tc, .pointer (some ⟨w.heap.size, 0, none⟩), .slice TA Tn Tc, .int .i64 (Tn : Int), .int .i64 (q1 : Int), .slice TA q1 Tc, y 7, .pointer (some ⟨w.heap.size, 2, none⟩), .slice EA En Ec, .pointer (some ⟨w.heap.size, 2, none⟩), .slice EA En Ec, .int .i64 (En : Int), .int .i64 (q2 : Int), .slice EA q2 Ec, y 15, y 16, undef, undef, undef, undef, undef, undef, undef, undef, undef, undef, undef, undef, undef, undef, undef, undef, undef, undef, undef, undef, undef, undef, undef, undef, undef, undef, undef], defers := [] })
    (C := fun w' => Below W0.heap.size W0 w')
    (F := fun j y w' => match j with
      | 7 => ∃ A c, y 7 = .slice A l1.length c ∧ w'.ownsRow W0.heap.size 27 1 (.slice A l1.length c) l1.length (ids l1)
      | 15 => ∃ A2 c2, y 15 = .slice A2 l2.length c2 ∧ w'.ownsRow W0.heap.size 27 1 (.slice A2 l2.length c2) l2.length (ids l2)
      | 16 => ∃ A c A2 c2, y 16 = .agg #[.slice A l1.length c, .slice none 0 0, .slice A2 l2.length c2] ∧ w'.ownsRow W0.heap.size 27 1 (.slice A l1.length c) l1.length (ids l1) ∧ w'.ownsRow W0.heap.size 27 1 (.slice A2 l2.length c2) l2.length (ids l2)
      | 17 => ∃ g, y 17 = .pointer (some ⟨g, 0, none⟩) ∧ W0.heap.size ≤ g ∧ Blk w' g 25 #[.slice none 0 0, .slice none 0 0, .slice none 0 0]
      | 18 => ∃ g A c A2 c2, y 17 = .pointer (some ⟨g, 0, none⟩) ∧ W0.heap.size ≤ g ∧ Blk w' g 25 #[.slice A l1.length c, .slice none 0 0, .slice A2 l2.length c2] ∧ w'.ownsRow W0.heap.size 27 1 (.slice A l1.length c) l1.length (ids l1) ∧ w'.ownsRow W0.heap.size 27 1 (.slice A2 l2.length c2) l2.length (ids l2)
      | _ => True)
    { rem := [7, 15, 16, 17, 18], facts := [7, 15, 16, 17, 18], needs := fun i => match i with | 16 => [7, 15] | 18 => [16, 17] | _ => [], keeps := fun i => match i with | 7 => [17] | 15 => [7, 17] | 16 => [17] | 17 => [7, 15, 16] | 18 => [] | _ => [], final := [18] }
    (fun _ => undef) rfl (by kernel_rfl) ?hCS ?hC Og.All.nil (Og.Steps.cons _ rfl rfl ?st7 (Og.Steps.cons _ rfl rfl ?st15 (Og.Steps.cons _ rfl rfl ?st16 (Og.Steps.cons _ rfl rfl ?st17 (Og.Steps.cons _ rfl rfl ?st18 Og.Steps.nil))))) ?hE
  case hCS =>
    intro w' hb
    obtain ⟨t0, t1, t2⟩ := HCC.out _ hb
    exact ⟨t0, t2⟩
  case hC => exact (Below.refl W0.heap.size W0).drew
  case st7 =>
    intro y w1 hC hN K hK
    go_simp
    refine (c1 _ _ hC).mono ?_
    rintro e w2 ⟨v, rfl, ho, hb⟩
    obtain ⟨A, c, rfl⟩ := own_slice ho
    exact hK.out (.slice A l1.length c) w2 (hC.trans (hb.mono hC.size)) ⟨A, c, rfl, base_le ho hC.size⟩ (Og.All.cons (fun ⟨g, e, hg, h⟩ => ⟨g, e, hg, blk_below h hb⟩) Og.All.nil)
  case st15 =>
    intro y w1 hC hN K hK
    go_simp
    refine (c2 _ _ hC).mono ?_
    rintro e w2 ⟨v, rfl, ho, hb⟩
    obtain ⟨A, c, rfl⟩ := own_slice ho
    exact hK.out (.slice A l2.length c) w2 (hC.trans (hb.mono hC.size)) ⟨A, c, rfl, base_le ho hC.size⟩ (Og.All.cons (fun ⟨A, c, e, h⟩ => ⟨A, c, e, own_below h hb⟩) (Og.All.cons (fun ⟨g, e, hg, h⟩ => ⟨g, e, hg, blk_below h hb⟩) Og.All.nil))
  case st16 =>
    intro y w1 hC hN K hK
    obtain ⟨A, c, x7, h7⟩ : ∃ A c, y 7 = .slice A l1.length c ∧ w1.ownsRow W0.heap.size 27 1 (.slice A l1.length c) l1.length (ids l1) := hN.head
    obtain ⟨A2, c2, x15, h15⟩ : ∃ A2 c2, y 15 = .slice A2 l2.length c2 ∧ w1.ownsRow W0.heap.size 27 1 (.slice A2 l2.length c2) l2.length (ids l2) := hN.tail.head
    simp only [x7, x15]
    go_simp
    refine Eq.mp (congrArg (fun a => K a _) ?_) (hK.out (.agg #[.slice A l1.length c, .slice none 0 0, .slice A2 l2.length c2]) w1 hC ⟨A, c, A2, c2, rfl, h7, h15⟩ (Og.All.cons (fun ⟨g, e, hg, h⟩ => ⟨g, e, hg, blk_below h (Below.refl w1.heap.size w1)⟩) Og.All.nil))
    have u7 : ∀ v, Og.upd y 16 v 7 = y 7 := fun v => rfl
    have u15 : ∀ v, Og.upd y 16 v 15 = y 15 := fun v => rfl
    have u16 : ∀ v, Og.upd y 16 v 16 = v := fun v => rfl
    have u17 : ∀ v, Og.upd y 16 v 17 = y 17 := fun v => rfl
    simp only [u7, u15, u16, u17, x7, x15]
  case st17 =>
    intro y w1 hC hN K hK
    go_simp
    have hb := (Below.refl w1.heap.size w1).alloc (Nat.le_refl _) (.cells #[.slice none 0 0, .slice none 0 0, .slice none 0 0] 25)
    refine hK.out (.pointer (some ⟨w1.heap.size, 0, none⟩)) _ (hC.alloc hC.size _) ⟨_, rfl, hC.size, Blk.new w1 25 #[.slice none 0 0, .slice none 0 0, .slice none 0 0]⟩ (Og.All.cons (fun ⟨A, c, e, h⟩ => ⟨A, c, e, own_below h hb⟩) (Og.All.cons (fun ⟨A, c, e, h⟩ => ⟨A, c, e, own_below h hb⟩) (Og.All.cons (fun ⟨A, c, A2, c2, e, h, h2⟩ => ⟨A, c, A2, c2, e, own_below h hb, own_below h2 hb⟩) Og.All.nil)))
  case st18 =>
    intro y w1 hC hN K hK
    obtain ⟨A, c, A2, c2, x16, h7, h15⟩ : ∃ A c A2 c2, y 16 = .agg #[.slice A l1.length c, .slice none 0 0, .slice A2 l2.length c2] ∧ w1.ownsRow W0.heap.size 27 1 (.slice A l1.length c) l1.length (ids l1) ∧ w1.ownsRow W0.heap.size 27 1 (.slice A2 l2.length c2) l2.length (ids l2) := hN.head
    obtain ⟨g, x17, hg, hk⟩ : ∃ g, y 17 = .pointer (some ⟨g, 0, none⟩) ∧ W0.heap.size ≤ g ∧ Blk w1 g 25 #[.slice none 0 0, .slice none 0 0, .slice none 0 0] := hN.tail.head
    obtain ⟨⟨z0, z1, z2⟩, zf⟩ := blk_cells3 hk
    have zf0 := zf 0
    have zf1 := zf 1
    have zf2 := zf 2
    simp only [x16, x17]
    go_simp
    refine Eq.mp (congrArg (fun a => K a _) ?_) (hK.out undef _ (below_set3 hC hg) ⟨g, A, c, A2, c2, x17, hg, ((hk.set_ 0 _).set_ 1 _).set_ 2 _, own_set3 h7 hk (by decide) _ _ _, own_set3 h15 hk (by decide) _ _ _⟩ Og.All.nil)
    have u7 : ∀ v, Og.upd y 18 v 7 = y 7 := fun v => rfl
    have u15 : ∀ v, Og.upd y 18 v 15 = y 15 := fun v => rfl
    have u16 : ∀ v, Og.upd y 18 v 16 = y 16 := fun v => rfl
    have u17 : ∀ v, Og.upd y 18 v 17 = y 17 := fun v => rfl
    simp only [u7, u15, u16, u17, x16, x17]
  case hE =>
    intro y w1 hC hF
    obtain ⟨g, A1, a1, A2, a2, x17, hg, hk, ho1, ho2⟩ : ∃ g A c A2 c2, y 17 = .pointer (some ⟨g, 0, none⟩) ∧ W0.heap.size ≤ g ∧ Blk w1 g 25 #[.slice A l1.length c, .slice none 0 0, .slice A2 l2.length c2] ∧ w1.ownsRow W0.heap.size 27 1 (.slice A l1.length c) l1.length (ids l1) ∧ w1.ownsRow W0.heap.size 27 1 (.slice A2 l2.length c2) l2.length (ids l2) := hF.head
    simp only [x17]
    have HG := Lib.hid hg
    have HC1 := Lib.hid hC
    have HBW := Lib.hid (HB.out.trans (hC.mono HB.out.size))
    have HKR := Lib.hid (blk_below HK1.out hC)
    have HK := Lib.hid hk
    have HO1 := Lib.hid ho1
    have HO2 := Lib.hid ho2
    obtain ⟨t0, t1, t2⟩ := HCC.out _ hC
    clear hF hg hC hk ho1 ho2 x17 c1 c2 s0' s1' s2' hHeld e1 e2 f1 f2
    generalize y 7 = y7
    generalize y 15 = y15
    generalize y 16 = y16
    clear y
    go_wp2_with fail
    clear t0 t1 t2
    go_loopw [26] (fun i wr => ∃ k : Nat, k ≤ Cn ∧ i = .int .i64 k ∧ Below w.heap.size w wr ∧ Blk wr (w.heap.size + 1) 25 #[.slice none 0 0, .slice none 0 0, .slice none 0 0] ∧
        wr.ownsRow W0.heap.size 27 1 (.slice A1 l1.length a1) l1.length (ids l1) ∧ wr.ownsRow W0.heap.size 27 1 (.slice A2 l2.length a2) l2.length (ids l2) ∧
        ∃ v G, Blk wr g 25 #[.slice A1 l1.length a1, v, .slice A2 l2.length a2] ∧ wr.ownsRow W0.heap.size 68 3 v G.length (cols G) ∧ G.map Col.p = ownG ((F.map Col.p).take k) ∧ ∀ x ∈ G, ColFresh wr W0.heap.size x)
      (fun i _ => Cn - (intOf i).toNat)
    case atStart => exact ⟨0, Nat.zero_le _, rfl, HBW.out, HKR.out, HO1.out, HO2.out, .slice none 0 0, [], HK.out, World.ownsRow_nil _ _ _ _, rfl, by simp⟩
    case round =>
      obtain ⟨k, hk, rfl, hb, kr, o1, o2, v0, G, kt, ho, hp, hfr⟩ := hrel
      obtain ⟨A0, c0, rfl⟩ := own_slice ho
      have hGl : G.length ≤ 14 := by
        have h1 := congrArg List.length hp
        have h2 := ownG_le ((F.map Col.p).take k)
        rw [List.length_map] at h1
        omega
      by_cases hlt : k < Cn
      · have e1 := List.getElem?_eq_getElem (l := F) (i := k) (by rw [L2.out]; exact hlt)
        generalize F[k]'(by rw [L2.out]; exact hlt) = x at e1
        obtain ⟨b, off, hCA, hbl, gc⟩ := cols_cells HCS.out e1
        obtain ⟨g0, g1, g2⟩ := gc.below hb hbl
        have hx := HOK.out x (List.mem_of_getElem? e1)
        have e2 : (F.map Col.p)[k]? = some (x.W, x.R, x.l) := by rw [List.getElem?_map, e1]; rfl
        obtain ⟨xW, xR, xA, xn, xc, xl⟩ := x
        simp only at g0 g1 g2 hx e2
        subst hCA
        have HB1 := Lib.hid hb
        have HKR1 := Lib.hid kr
        have HO11 := Lib.hid o1
        have HO21 := Lib.hid o2
        have HKT := Lib.hid kt
        have HO := Lib.hid ho
        have HP := Lib.hid hp
        have HFR := Lib.hid hfr
        have HGL := Lib.hid hGl
        by_cases h14 : k < 14
        · have HT := Lib.hid (ownG_lt e2 h14)
          have h14' : (k : Int) < 14 := by omega
          have hba := hb.alloc hb.size (.cells #[.int .i64 xW, .int .i64 xR, .slice xA xn xc] 68)
          obtain ⟨q3, hq3, hr3, hm3, hl3⟩ := cut_q 150 ((hx.keep hba).more hba.size).1
          have d3 := hx.2.1
          simp only at d3 hq3 hr3 hl3
          have HWD := Lib.hid (show ∀ y ∈ xl.take 150, Word y from fun y hy => hx.2.2.2 y (List.mem_of_mem_take hy))
          have e3 : (if (150 : Int) < (xn : Int) then (150 : Int) else (xn : Int)) = (q3 : Int) := by split <;> omega
          have f3 : (q3 : Int) ≤ (xc : Int) := by omega
          have cu := clone_u xA q3 xc (xl.take 150) _ hr3 (by omega)
          unfold OwnU at cu
          have HLL := Lib.hid hl3
          simp only at HT
          generalize xl.take 150 = ch at *
          have hkc := Lib.hid (Blk.new wr 68 #[.int .i64 xW, .int .i64 xR, .slice xA xn xc])
          clear hb kr o1 o2 kt ho hp hfr hGl gc hx e2 e1 h14 hba hq3 hr3 hm3 hl3
          go_upto_region 7 with (first
            | (go_at_call 63; ((with_reducible refine cu.mono ?_); rintro en w2 ⟨vv, rfl, hov, hb2⟩; obtain ⟨xA', xc', rfl⟩ := own_slice hov; have hk2 := blk_below hkc.out hb2; obtain ⟨⟨q0, q1, q2⟩, qf⟩ := blk_cells3 hk2; have qf2 := qf 2; have HOV := Lib.hid hov; have HK2 := Lib.hid hk2; have HB2 := Lib.hid hb2; clear hov hk2 hb2 qf))
            | fail)
          have hbwr : Below wr.heap.size wr w2 := ((Below.refl wr.heap.size wr).alloc (Nat.le_refl _) (.cells #[.int .i64 xW, .int .i64 xR, .slice xA xn xc] 68)).trans (HB2.out.mono (by simp))
          have hglt := HKT.out.lt
          have hgb := HG.out
          have hrlt := HKR1.out.lt
          have hw0 := HB.out.size
          have kt3 := (blk_below HKT.out hbwr).far (p := ⟨wr.heap.size, 2, none⟩) (by simp; omega) (.slice xA' ch.length xc')
          have kr3 := (blk_below HKR1.out hbwr).far (p := ⟨wr.heap.size, 2, none⟩) (by simp; omega) (.slice xA' ch.length xc')
          have kc3 := HK2.out.set_ 2 (.slice xA' ch.length xc')
          have o13 := own_set1 (i := 2) (own_below HO11.out hbwr) HK2.out (by decide) (.slice xA' ch.length xc')
          have o23 := own_set1 (i := 2) (own_below HO21.out hbwr) HK2.out (by decide) (.slice xA' ch.length xc')
          have oc3 := (own_below HO.out hbwr).kept (grown_set1 w2 wr.heap.size 2 (.slice xA' ch.length xc')) (.inr (own_lt_ne HO.out (Nat.le_refl _)))
          have hf3 : ∀ z ∈ G, ColFresh (w2.setCell ⟨wr.heap.size, 2, none⟩ (.slice xA' ch.length xc')) W0.heap.size z := fun z hz => colFresh_cell ((HFR.out z hz).below hbwr) HK2.out (by decide) _
          have hn3 : ColFresh (w2.setCell ⟨wr.heap.size, 2, none⟩ (.slice xA' ch.length xc')) W0.heap.size ⟨xW, xR, xA', ch.length, xc', ch⟩ := colFresh_cell (colFresh_base (colFresh_own xW xR HOV.out HWD.out) (by simp; omega)) HK2.out (by decide) _
          have hb3 : Below w.heap.size w (w2.setCell ⟨wr.heap.size, 2, none⟩ (.slice xA' ch.length xc')) := (HB1.out.trans (hbwr.mono HB1.out.size)).setCell (p := ⟨wr.heap.size, 2, none⟩) HB1.out.size _
          have hz3 : W0.heap.size ≤ (w2.setCell ⟨wr.heap.size, 2, none⟩ (.slice xA' ch.length xc')).heap.size := by have := hbwr.size; simp; omega
          generalize w2.setCell ⟨wr.heap.size, 2, none⟩ (.slice xA' ch.length xc') = w3 at *
          obtain ⟨⟨p0, p1, p2⟩, _⟩ := blk_cells3 kc3
          obtain ⟨⟨z0, z1, z2⟩, _⟩ := blk_cells3 kt3
          have KT3 := Lib.hid kt3
          have KR3 := Lib.hid kr3
          have O13 := Lib.hid o13
          have O23 := Lib.hid o23
          have OC3 := Lib.hid oc3
          have HF3 := Lib.hid hf3
          have HN3 := Lib.hid hn3
          have HB3 := Lib.hid hb3
          have HZ3 := Lib.hid hz3
          clear kt3 kr3 kc3 o13 o23 oc3 hf3 hn3 hb3 hz3 hbwr q0 q1 q2 qf2 g0 g1 g2 z0 z2 hglt hgb hrlt hw0
          go_wp2_with (first
            | (at_builtin
               refine wpList_append_any _ rfl (.tmp 43) (.tmp 45) _ rfl W0.heap.size 68 i1 _ 3 40 Try.underlying23 hj0 hj1 hj2 hj3 rfl (by omega) (.slice A0 G.length c0) G.length (cols G) rfl
                 ?_ (w3.heap.size + 1) (some ⟨w3.heap.size, 0, none⟩) 1 1 [.int .i64 xW, .int .i64 xR, .slice xA' ch.length xc'] rfl ?_ (by simp [Value.oneCell']) (by have := HGL.out; simp only [maxLen]; omega) (by have := HGL.out; omega) ?_ ?_
               · exact OC3.out.alloc _
               · exact lit_reads1 _ _ _ rfl
               · have := HZ3.out; simp; omega
               intro v1 w1 hown1 hg1 hat1
               obtain ⟨A5, c5, rfl⟩ := own_slice hown1
               have HG1 := Lib.hid hg1
               have HO5 := Lib.hid hown1
               have hk5 := blk_grown_own (KT3.out.alloc (.cells #[.int .i64 xW, .int .i64 xR, .slice xA' ch.length xc'] 68)) (OC3.out.alloc _) (by decide) HG1.out
               obtain ⟨⟨y0, y1, y2⟩, yf⟩ := blk_cells3 hk5
               have yf1 := yf 1
               have HK5 := Lib.hid hk5
               clear hg1 hown1 hat1 yf hk5)
            | fail)
          go_roundw
          case rel =>
            have hb4 := HB3.out.alloc HB3.out.size (.cells #[.int .i64 xW, .int .i64 xR, .slice xA' ch.length xc'] 68)
            have hb5 := own_grown_below hb4 (base_le (OC3.out.alloc (.cells #[.int .i64 xW, .int .i64 xR, .slice xA' ch.length xc'] 68)) HB.out.size) HG1.out
            have hst : ∀ z, ColFresh w3 W0.heap.size z → ColFresh w1 W0.heap.size z := fun z hz => colFresh_grown (hz.below ((Below.refl _ w3).alloc (Nat.le_refl _) _)) (OC3.out.alloc _) (by decide) HG1.out
            have hr5 := blk_grown_own (KR3.out.alloc (.cells #[.int .i64 xW, .int .i64 xR, .slice xA' ch.length xc'] 68)) (OC3.out.alloc _) (by decide) HG1.out
            have hgne : w.heap.size + 1 ≠ g := by have := HG.out; have := HS.out; omega
            refine ⟨k + 1, by omega, by go_num, hb5.setCell (p := ⟨g, 1, none⟩) (Nat.le_trans HB.out.size HG.out) _, hr5.far (by simpa using hgne) _, own_set1 (own_other (O13.out.alloc _) (OC3.out.alloc _) (by decide) HG1.out) HK5.out (by decide) _, own_set1 (own_other (O23.out.alloc _) (OC3.out.alloc _) (by decide) HG1.out) HK5.out (by decide) _, _, G ++ [⟨xW, xR, xA', ch.length, xc', ch⟩], HK5.out.set_ 1 _, ?_, ?_, fun z hz => ?_⟩
            · rw [cols_app, List.length_append]; exact own_set1 HO5.out HK5.out (by decide) _
            · rw [List.map_append, HP.out, HT.out]; rfl
            · rcases List.mem_append.1 hz with hz | hz
              · exact colFresh_cell (hst z (HF3.out z hz)) HK5.out (by decide) _
              · rw [List.mem_singleton] at hz; subst hz
                exact colFresh_cell (hst _ HN3.out) HK5.out (by decide) _
          case measure => simp [intOf]; omega
        · have HT := Lib.hid (ownG_ge (F.map Col.p) h14)
          have h14' : ¬ (k : Int) < 14 := by omega
          clear hb kr o1 o2 kt ho hp hfr hGl gc hx e2 e1 h14
          go_wp2_with fail
          have hba := (Below.refl wr.heap.size wr).alloc (Nat.le_refl _) (.cells #[.int .i64 xW, .int .i64 xR, .slice xA xn xc] 68)
          go_roundw
          case rel => exact ⟨k + 1, by omega, by go_num, HB1.out.alloc HB1.out.size _, HKR1.out.alloc _, HO11.out.alloc _, HO21.out.alloc _, _, G, HKT.out.alloc _, HO.out.alloc _, by rw [HP.out, HT.out], fun z hz => (HFR.out z hz).below hba⟩
          case measure => simp [intOf]; omega
      · have : k = Cn := by omega
        subst this
        have HBB := Lib.hid hb
        have HKR1 := Lib.hid kr
        have HO11 := Lib.hid o1
        have HO21 := Lib.hid o2
        have HO := Lib.hid ho
        have HFR := Lib.hid hfr
        rw [List.take_of_length_le (by rw [List.length_map, L2.out]; exact Nat.le_refl _)] at hp
        have HP := Lib.hid hp
        obtain ⟨⟨z0, z1, z2⟩, _⟩ := blk_cells3 kt
        obtain ⟨⟨y0, y1, y2⟩, yf⟩ := blk_cells3 kr
        have yf0 := yf 0
        have yf1 := yf 1
        have yf2 := yf 2
        clear hb kr o1 o2 kt ho hp hfr hGl yf
        go_wp2_with fail
        refine bodyPost_ret (v := .agg #[.slice A1 l1.length a1, .slice A0 G.length c0, .slice A2 l2.length a2]) (by simp [results, Try.results49, go_sem, *]) rfl ?_
        have hfr : TabFresh wr w.heap.size ⟨A1, l1.length, a1, l1, A0, G.length, c0, G, A2, l2.length, a2, l2⟩ := ⟨idFresh_own (base_le HO11.out HB.out.size) HW1.out, base_le HO.out HB.out.size, fun x hx => colFresh_base (HFR.out x hx) HB.out.size, idFresh_own (base_le HO21.out HB.out.size) HW2.out⟩
        exact ⟨⟨A1, l1.length, a1, l1, A0, G.length, c0, G, A2, l2.length, a2, l2⟩, rfl, by unfold Tab.p; simp only; rw [HP.out], hfr.set3 HKR1.out _ _ _, below_set3 HBB.out (by omega)⟩
end Go.Proofs.Ytbcbknajhdaneaa
