/- What is proved: the contract of table's Swap. -/
import Derived.Test.YtbcbknajhdaneaaTb8
namespace Go.Proofs.Ytbcbknajhdaneaa
open Go.RowKit
set_option linter.unusedVariables false
set_option linter.unusedSimpArgs false
def swapEs (es : List Int) (k : Nat) : List Int := (es.set k (idAt es (es.length - 1))).take (es.length - 1)
def tswP (t : Tab) (row : Int) : PT := if atE t row = 0 then (t.ty, eachL (fun _ x => swpP x row) 0 t.F, swapEs t.es row.toNat) else noT
def tswM (t : Tab) (row : Int) : Int := if atE t row = 0 then (if row.toNat + 1 < t.es.length then idAt t.es (t.es.length - 1) else 0) else 0
/-- a table, an id, and how it went -/
def SwpR (p : PT) (m er : Int) (w : World) (e : Ending) (w' : World) : Prop := ∃ v, e = .returned (.tuple #[v, .int .u64 m, .int .i64 er]) ∧ TabRes p w.heap.size v w' ∧ Below w.heap.size w w'
theorem swapEs_last (es : List Int) (k : Nat) (h : es.length = k + 1) : swapEs es k = es.take k := by
  unfold swapEs
  rw [h, Nat.add_sub_cancel, List.take_set_of_le (Nat.le_refl _)]
theorem ids_set (l : List Int) (k : Nat) (y : Int) : (ids l).set k (.int .u64 y) = ids (l.set k y) := by unfold ids; rw [List.map_set]
theorem ids_take (l : List Int) (k : Nat) : (ids l).take k = ids (l.take k) := by unfold ids; rw [List.map_take]
theorem below_drewd {w w' : World} {B : Nat} (h : Below B w w') : Below B w w'.drew := h.drew
theorem own_cells {w : World} {base n size g c : Nat} {e : TypeId} {xs : List Value} (h : w.ownsRow base e size (.slice (some ⟨g, 0, none⟩) n c) n xs) : ∃ cur, Blk w g e cur := by
  rcases h.2 with ⟨hv, _⟩ | ⟨g', cap, cur, hv, _, h2, _⟩
  · cases hv
  · injection hv with ha _ _
    injection ha with ha
    injection ha with ha
    subst ha
    exact ⟨cur, h2⟩
theorem own_base {w : World} {base n size g c : Nat} {e : TypeId} {xs : List Value} (h : w.ownsRow base e size (.slice (some ⟨g, 0, none⟩) n c) n xs) : base ≤ g := by
  rcases h.2 with ⟨hv, _⟩ | ⟨g', cap, cur, hv, h1, _⟩
  · cases hv
  · injection hv with ha _ _
    injection ha with ha
    injection ha with ha
    subst ha
    exact h1
theorem swapEs_word {es : List Int} {k : Nat} (hw : ∀ y ∈ es, Word y) (h0 : 0 < es.length) : ∀ y ∈ swapEs es k, Word y := by
  intro y hy
  unfold swapEs at hy
  have hy := List.mem_of_mem_take hy
  rcases List.mem_or_eq_of_mem_set hy with hy | rfl
  · exact hw y hy
  · unfold idAt
    rw [List.getElem?_eq_getElem (by omega)]
    exact hw _ (List.getElem_mem _)
set_option maxRecDepth 100000 in
set_option maxHeartbeats 8000000 in
theorem tswap_any (t : Tab) (row : Int) (w : World) (h : TabOk w w.heap.size t) (hs : TabSm t) (hn : t.Cn ≤ 65536 ∧ t.Tn ≤ 65536 ∧ t.En ≤ 65536) : Calls Try.prog 33 #[t.V, .int .i64 row] w (SwpR (tswP t row) (tswM t row) (atE t row) w) := by
  obtain ⟨W0, hW0⟩ : ∃ W0, W0 = ((w.alloc (.cells #[.slice t.TA t.Tn t.Tc, .slice t.CA t.Cn t.Cc, .slice t.EA t.En t.Ec] 25)).alloc (.cells #[.int .i64 row] 3)).alloc (.cells #[.slice none 0 0, .slice none 0 0, .slice none 0 0] 25) := ⟨_, rfl⟩
  have hB : Below w.heap.size w W0 := by rw [hW0]; exact (((Below.refl w.heap.size w).alloc (Nat.le_refl _) _).alloc (by simp) _).alloc (by simp; omega) _
  have hsz : W0.heap.size = w.heap.size + 3 := by rw [hW0]; simp
  have k0 : Blk W0 w.heap.size 25 #[.slice t.TA t.Tn t.Tc, .slice t.CA t.Cn t.Cc, .slice t.EA t.En t.Ec] := by rw [hW0]; exact ((Blk.new w _ _).alloc _).alloc _
  have k1 : Blk W0 (w.heap.size + 1) 3 #[.int .i64 row] := by
    rw [hW0]
    have h := Blk.new (w.alloc (.cells #[.slice t.TA t.Tn t.Tc, .slice t.CA t.Cn t.Cc, .slice t.EA t.En t.Ec] 25)) 3 #[.int .i64 row]
    rw [World.size_alloc] at h
    exact h.alloc _
  have k2 : Blk W0 (w.heap.size + 2) 25 #[.slice none 0 0, .slice none 0 0, .slice none 0 0] := by
    rw [hW0]
    have h := Blk.new ((w.alloc (.cells #[.slice t.TA t.Tn t.Tc, .slice t.CA t.Cn t.Cc, .slice t.EA t.En t.Ec] 25)).alloc (.cells #[.int .i64 row] 3)) 25 #[.slice none 0 0, .slice none 0 0, .slice none 0 0]
    rw [World.size_alloc, World.size_alloc] at h
    exact h
  have hT := (h.keep hB).more hB.size
  have ca := tat_any t row W0 hT hs
  have c10 : W0.cell? ⟨w.heap.size + 1, 0, none⟩ = some (.int .i64 row) := k1.cell 0
  obtain ⟨⟨x0, x1, x2⟩, _⟩ := blk_cells3 k0
  have hw := atE_ways t row
  have zz := fun (w2 : World) (hb : Below W0.heap.size W0 w2) => And.intro (blk_below k0 hb) (And.intro (blk_below k1 hb) (And.intro (blk_below k2 hb) (hB.trans (hb.mono hB.size))))
  have HZ := Lib.hid zz
  have HW := Lib.hid hW0
  have HS := Lib.hid hsz
  by_cases h0 : atE t row = 0
  · have hlen := h.len
    have hz := each_get_zero h0
    obtain ⟨hb0, hr0, hr1⟩ := atE_zero h0
    have hp : tswP t row = (t.ty, eachL (fun _ x => swpP x row) 0 t.F, swapEs t.es row.toNat) := by unfold tswP; rw [if_pos h0]
    have hm : tswM t row = if row.toNat + 1 < t.es.length then idAt t.es (t.es.length - 1) else 0 := by unfold tswM; rw [if_pos h0]
    rw [hp, hm]
    rw [h0] at ca ⊢
    have ce := fun (w2 : World) (hb : Below W0.heap.size W0 w2) => each1_any t 85 (w.heap.size + 1) (fun _ x => swpP x row) (fun _ x => getE x row) w2 ((hT.cs.below hb).more hb.size) hn.1
      (enters_of Try.func85 (by kernel_rfl) rfl)
      (fun k x hx W hbW => swapc_any k x (w.heap.size + 1) row W (((hT.csok x (List.mem_of_getElem? hx)).keep (hb.trans (hbW.mono hb.size))).more (Nat.le_trans hb.size hbW.size)) (cell_below' (hb.trans (hbW.mono hb.size)) c10 (by omega)) (by have := hb.size; have := hbW.size; omega))
    have hep : eachP (fun _ x => swpP x row) (fun _ x => getE x row) t.F = eachL (fun _ x => swpP x row) 0 t.F := by unfold eachP; rw [if_pos hz]
    rw [hep, hz] at ce
    have co := fun (w2 : World) (hb : Below W0.heap.size W0 w2) => town0 t.EA t.En t.Ec t.es w2 ((hT.es.below hb).more hb.size) hn.2.2
    have cu := fun (w2 : World) (hb : Below W0.heap.size W0 w2) => clone_d t.TA t.Tn t.Tc t.ty w2 ((hT.ty.below hb).more hb.size) hn.2.1
    obtain ⟨k, rfl⟩ := Int.eq_ofNat_of_zero_le hr0
    obtain ⟨m, hm1⟩ : ∃ m, t.En = m + 1 := ⟨t.En - 1, by omega⟩
    have hkm : k ≤ m := by omega
    have hem : t.es.length = m + 1 := by omega
    rw [Int.toNat_natCast, hem, Nat.add_sub_cancel]
    have HTW := Lib.hid h.tyw
    have HEW := Lib.hid h.esw
    generalize hcl : eachL (fun _ x => swpP x (k : Int)) 0 t.F = cl at *
    unfold Tab.V at ca ce ⊢
    unfold EachR at ce
    unfold OwnD at co cu
    obtain ⟨TA, Tn, Tc, ty, CA, Cn, Cc, F, EA, En, Ec, es⟩ := t
    simp only at *
    subst hm1
    have HEM := Lib.hid hem
    have hn3 := hn.2.2
    clear hW0 hsz h hs k0 k1 k2 hT zz h0 hz hb0 hp hm hep hcl hlen hw hem hn hr0 hr1
    obtain ⟨mv, hmv⟩ : ∃ mv, mv = (if k + 1 < m + 1 then idAt es m else 0) := ⟨_, rfl⟩
    rw [← hmv]
    have HMV := Lib.hid hmv
    clear hmv
    have hym : (ids es)[m]? = some (.int .u64 (idAt es m)) := by
      unfold ids
      rw [List.getElem?_map, List.getElem?_eq_getElem (by rw [HEM.out]; omega)]
      unfold idAt
      rw [List.getElem?_eq_getElem (by rw [HEM.out]; omega)]
      rfl
    have HYM := Lib.hid hym
    clear hym
    by_cases hlt : k < m
    · go_enter Try.func33, Try.ntmps33
      go_upto_region 1 with fail
      rw [← HW.out]
      go_wp2_with (first
        | (go_at_call 79; ((with_reducible refine ca.mono ?_); rintro en w2 ⟨rfl, hb2⟩; obtain ⟨z0, z1, z2, zb⟩ := HZ.out _ hb2; obtain ⟨⟨z0, y1, y2⟩, _⟩ := blk_cells3 z0; clear z1 z2 zb))
        | (go_at_call 67; ((with_reducible refine (ce _ hb2).mono ?_); rintro en w3 ⟨v, F', rfl, ho3, hl3, hf3, hb3⟩; have hb33 := hb2.trans (hb3.mono hb2.size); obtain ⟨z0', z1, z2, zb⟩ := HZ.out _ hb33; obtain ⟨⟨z0', y1', y2'⟩, _⟩ := blk_cells3 z0'; have HO3 := Lib.hid ho3; have HL3 := Lib.hid hl3; have HF3 := Lib.hid hf3; obtain ⟨Av, cv, rfl⟩ := own_slice ho3; clear z1 z2 zb ho3 hl3 hf3))
        | (go_at_call 70; ((with_reducible refine (co _ hb33).mono ?_); rintro en w4 ⟨v2, rfl, hoE, hb4⟩; have hb44 := hb33.trans (hb4.mono hb33.size); obtain ⟨t0, t1, t2, tb⟩ := HZ.out _ hb44; have HT0 := Lib.hid t0; have HT2 := Lib.hid t2; obtain ⟨⟨t0, _, _⟩, _⟩ := blk_cells3 t0; have t10 : w4.cell? ⟨w.heap.size + 1, 0, none⟩ = some (.int .i64 (k : Int)) := t1.cell 0; rw [HEM.out] at hoE; obtain ⟨ge, cce, rfl⟩ := ownsRow_succ hoE; have tm : w4.cell? ⟨ge, m, none⟩ = some (.int .u64 (idAt es m)) := (hoE.cellAt m (by omega)).trans HYM.out; have tkf : w4.frozen? ⟨ge, k, none⟩ = false := hoE.frozenAt k; obtain ⟨vk, tk⟩ : ∃ vk, w4.cell? ⟨ge, k, none⟩ = some vk := ⟨_, (hoE.cellAt k (by omega)).trans (List.getElem?_eq_getElem (by rw [ids_len, HEM.out]; omega))⟩; clear t1 t2))
        | fail)
      have hst := hoE.stored k (.int .u64 (idAt es m))
      have hg5 := hst.2
      have ho5 := hst.1
      rw [ids_set] at ho5
      have hs5 : (es.set k (idAt es m)).take m = swapEs es k := by unfold swapEs; rw [HEM.out, Nat.add_sub_cancel]
      have hmv5 : mv = idAt es m := by rw [HMV.out, if_pos (by omega)]
      have hgb := own_blk_ne hoE HT0.out (by decide)
      have hgb2 := own_blk_ne hoE HT2.out (by decide)
      obtain ⟨cur, hcur⟩ := own_cells hoE
      have hc4 := own_below HO3.out hb4
      have hc5 := hc4.kept hg5 (.inr (own_blk_ne hc4 hcur (by decide)))
      have hf5 : ∀ x ∈ F', ColFresh (w4.setCell ⟨ge, k, none⟩ (.int .u64 (idAt es m))) w2.heap.size x := fun x hx => colFresh_grown ((HF3.out x hx).below hb4) hoE (by decide) hg5
      have hk05 : Blk (w4.setCell ⟨ge, k, none⟩ (.int .u64 (idAt es m))) w.heap.size _ _ := HT0.out.grown hg5 (fun e => hgb e.symm)
      have hk25 : Blk (w4.setCell ⟨ge, k, none⟩ (.int .u64 (idAt es m))) (w.heap.size + 2) _ _ := HT2.out.grown hg5 (fun e => hgb2 e.symm)
      have hgge : W0.heap.size ≤ ge := Nat.le_trans hb33.size (own_base hoE)
      have hB5 := hb44.setCell (p := ⟨ge, k, none⟩) hgge (.int .u64 (idAt es m))
      have hz5 : w4.heap.size ≤ (w4.setCell ⟨ge, k, none⟩ (.int .u64 (idAt es m))).heap.size := by simp
      generalize w4.setCell ⟨ge, k, none⟩ (.int .u64 (idAt es m)) = w5 at *
      generalize es.set k (idAt es m) = es5 at *
      have hew : ∀ y ∈ es5.take m, Word y := by rw [hs5]; exact swapEs_word HEW.out (by rw [HEM.out]; omega)
      obtain ⟨⟨s0', _, _⟩, _⟩ := blk_cells3 hk05
      have hl0 : w.heap.size < w5.heap.size := hk05.lt
      have hcut := fun w => run_headD (some ⟨ge, 0, none⟩) (m + 1) cce m (by obtain ⟨_, _, e, h1, _⟩ := own_cap ho5; injection e with _ _ e; omega) w
      have HC5 := Lib.hid hc5
      have HF5 := Lib.hid hf5
      have HE5 := Lib.hid ho5
      have HK5 := Lib.hid hk25
      have HLT5 := Lib.hid hk25.lt
      have HB5 := Lib.hid hB5
      have hB5d := hB5.drew
      have HS5 := Lib.hid hs5
      have HMV5 := Lib.hid hmv5
      have HEW5 := Lib.hid hew
      have HZ2 := Lib.hid hb2
      have HZ4 := Lib.hid hb33
      have HB4 := Lib.hid hb4
      clear hc5 hf5 ho5 hk05 hk25 hB5 hs5 hmv5 hew hb2 hb3 hb33 hb4 hb44 ca ce co t0 t10 z0 y1 y2 z0' y1' y2' x0 x1 x2 c10 tm tk tkf hst hg5 hgb hgb2 hcur hc4 hgge
      refine wp_region_held_drew (S := fun w' => w'.cell? ⟨w.heap.size, 0, none⟩ = some (.slice TA Tn Tc)) (by kernel_rfl) s0' (fun hHeld => ?_)
      refine wpAnyH_take (i := 0) (oi := _) (v := ?_) rfl (by kernel_rfl) (by kernel_rfl) (by kernel_rfl) (fun _ _ _ h => h) (Or.inl ⟨by rfl, ?_⟩) hHeld ?_
      rotate_left
      · intro w hSw; obtain s0 := hSw; go_simp; try with_reducible rfl
      simp only [Act.put, List.getElem_toArray, List.getElem_cons_succ, List.getElem_cons_zero, List.setIfInBounds_toArray, List.set_cons_zero, List.set_cons_succ]
      refine wpAnyH_take (i := 1) (oi := _) (v := ?_) rfl (by kernel_rfl) (by kernel_rfl) (by kernel_rfl) (fun _ _ _ h => h) (Or.inl ⟨by rfl, ?_⟩) hHeld ?_
      rotate_left
      · intro w hSw; obtain s0 := hSw; go_simp; try with_reducible rfl
      simp only [Act.put, List.getElem_toArray, List.getElem_cons_succ, List.getElem_cons_zero, List.setIfInBounds_toArray, List.set_cons_zero, List.set_cons_succ]
      refine wpAnyH_take (i := 3) (oi := _) (v := ?_) rfl (by kernel_rfl) (by kernel_rfl) (by kernel_rfl) (fun _ _ _ h => h) (Or.inl ⟨by rfl, ?_⟩) hHeld ?_
      rotate_left
      · intro w hSw; obtain s0 := hSw; go_simp; try with_reducible rfl
      simp only [Act.put, List.getElem_toArray, List.getElem_cons_succ, List.getElem_cons_zero, List.setIfInBounds_toArray, List.set_cons_zero, List.set_cons_succ]
      refine wpAnyH_take (i := 4) (oi := _) (v := ?_) rfl (by kernel_rfl) (by kernel_rfl) (by kernel_rfl) (fun _ _ _ h => h) (Or.inl ⟨by rfl, ?_⟩) hHeld ?_
      rotate_left
      · intro w hSw; obtain s0 := hSw; go_simp; try with_reducible rfl
      simp only [Act.put, List.getElem_toArray, List.getElem_cons_succ, List.getElem_cons_zero, List.setIfInBounds_toArray, List.set_cons_zero, List.set_cons_succ]
      refine wpAnyH_take (i := 5) (oi := _) (v := ?_) rfl (by kernel_rfl) (by kernel_rfl) (by kernel_rfl) (fun _ _ _ h => h) (Or.inl ⟨by rfl, ?_⟩) hHeld ?_
      rotate_left
      · intro w hSw; obtain s0 := hSw; go_simp; try with_reducible rfl
      simp only [Act.put, List.getElem_toArray, List.getElem_cons_succ, List.getElem_cons_zero, List.setIfInBounds_toArray, List.set_cons_zero, List.set_cons_succ]
      refine wpAnyH_take (i := 6) (oi := _) (v := ?_) rfl (by kernel_rfl) (by kernel_rfl) (by kernel_rfl) (fun _ _ _ h => h) (Or.inl ⟨by rfl, ?_⟩) hHeld ?_
      rotate_left
      · intro w hSw; obtain s0 := hSw; go_simp; try with_reducible rfl
      simp only [Act.put, List.getElem_toArray, List.getElem_cons_succ, List.getElem_cons_zero, List.setIfInBounds_toArray, List.set_cons_zero, List.set_cons_succ]
      refine wpAnyH_take (i := 8) (oi := _) (v := ?_) rfl (by kernel_rfl) (by kernel_rfl) (by kernel_rfl) (fun _ _ _ h => h) (Or.inl ⟨by rfl, ?_⟩) hHeld ?_
      rotate_left
      · intro w hSw; obtain s0 := hSw; go_simp; try with_reducible rfl
      simp only [Act.put, List.getElem_toArray, List.getElem_cons_succ, List.getElem_cons_zero, List.setIfInBounds_toArray, List.set_cons_zero, List.set_cons_succ]
      refine wpAnyH_ready (rs := [2]) (by kernel_rfl) (by simp) (AllReadyH.cons (o := _) rfl (fun K hK => ?_) AllReadyH.nil)
      go_simp
      refine (cu _ hB5d).mono ?_
      rintro en w6 ⟨vt, rfl, hot, hb6⟩
      obtain ⟨At, ct, rfl⟩ := own_slice hot
      have hb6 : Below w5.heap.size w5 w6 := (Below.refl w5.heap.size w5).drew.trans hb6
      have hk6 := HK5.out.below hb6 HLT5.out
      obtain ⟨⟨q0, q1, q2⟩, qf⟩ := blk_cells3 hk6
      have qf0 := qf 0
      have qf1 := qf 1
      have qf2 := qf 2
      have HOT := Lib.hid hot
      have HK6 := Lib.hid hk6
      clear qf hot hk6
      refine hK.out _ _ (cell_below' hb6 s0' hl0) (fun hHeld => ?_)
      clear hK K
      try simp only [Act.put, List.getElem_toArray, List.getElem_cons_succ, List.getElem_cons_zero, List.setIfInBounds_toArray, List.set_cons_zero, List.set_cons_succ]
      refine wpAnyH_take (i := 7) (oi := _) (v := ?_) rfl (by kernel_rfl) (by kernel_rfl) (by kernel_rfl) (fun _ _ _ h => h) (Or.inl ⟨by rfl, ?_⟩) hHeld ?_
      rotate_left
      · intro w hSw; obtain s0 := hSw; go_simp; try with_reducible rfl
      simp only [Act.put, List.getElem_toArray, List.getElem_cons_succ, List.getElem_cons_zero, List.setIfInBounds_toArray, List.set_cons_zero, List.set_cons_succ]
      refine wpAnyH_ready (rs := [9]) (by kernel_rfl) (by simp) (AllReadyH.cons (o := _) rfl (fun K hK => ?_) AllReadyH.nil)
      go_simp
      skip
      refine hK.out _ _ (far3 _ _ _ trivial (cell_below' hb6 s0' hl0) (by omega)) (fun hHeld => ?_)
      clear hK K
      try simp only [Act.put, List.getElem_toArray, List.getElem_cons_succ, List.getElem_cons_zero, List.setIfInBounds_toArray, List.set_cons_zero, List.set_cons_succ]
      refine wpAnyH_take (i := 10) (oi := _) (v := ?_) rfl (by kernel_rfl) (by kernel_rfl) (by kernel_rfl) (fun _ _ _ h => h) (Or.inl ⟨by rfl, ?_⟩) hHeld ?_
      rotate_left
      · intro w hSw; obtain s0 := hSw; go_simp; try with_reducible rfl
      simp only [Act.put, List.getElem_toArray, List.getElem_cons_succ, List.getElem_cons_zero, List.setIfInBounds_toArray, List.set_cons_zero, List.set_cons_succ]
      refine wpAnyH_take (i := 11) (oi := _) (v := ?_) rfl (by kernel_rfl) (by kernel_rfl) (by kernel_rfl) (fun _ _ _ h => h) (Or.inl ⟨by rfl, ?_⟩) hHeld ?_
      rotate_left
      · intro w hSw; obtain s0 := hSw; go_simp; try with_reducible rfl
      simp only [Act.put, List.getElem_toArray, List.getElem_cons_succ, List.getElem_cons_zero, List.setIfInBounds_toArray, List.set_cons_zero, List.set_cons_succ]
      refine wpAnyH_done (by kernel_rfl) ?_ _
      go_wp2_with fail
      refine bodyPost_ret (v := .tuple #[.agg #[.slice At ty.length ct, .slice Av F'.length cv, .slice (some ⟨ge, 0, none⟩) m cce], .int .u64 (idAt es m), .int .i64 0]) (by simp [results, Try.results33, go_sem, *]) rfl ?_
      show SwpR _ _ _ w _ _
      rw [HMV5.out]
      have hzz : w.heap.size ≤ w5.heap.size := by omega
      have hbig := (hB.trans (HB5.out.mono hB.size)).trans (hb6.mono hzz)
      have hfr : TabFresh w6 w.heap.size ⟨At, ty.length, ct, ty, Av, F'.length, cv, F', some ⟨ge, 0, none⟩, m, cce, es5.take m⟩ :=
        ⟨(idFresh_own HOT.out HTW.out).base hzz, own_below (base_le HC5.out (Nat.le_trans hB.size HZ2.out.size)) hb6, fun x hx => (colFresh_base (HF5.out x hx) (Nat.le_trans hB.size HZ2.out.size)).below hb6,
         ((idFresh_own (by have h9 := own_shrink HE5.out (Nat.le_succ m); rw [ids_take] at h9; exact h9) HEW5.out).base (Nat.le_trans hB.size HZ4.out.size)).below hb6⟩
      exact ⟨_, rfl, ⟨⟨At, ty.length, ct, ty, Av, F'.length, cv, F', some ⟨ge, 0, none⟩, m, cce, es5.take m⟩, rfl, by unfold Tab.p; simp only; rw [HL3.out, HS5.out], hfr.set3 HK6.out _ _ _⟩, below_set3 hbig (by omega)⟩
    · go_enter Try.func33, Try.ntmps33
      go_upto_region 1 with fail
      rw [← HW.out]
      go_wp2_with (first
        | (go_at_call 79; ((with_reducible refine ca.mono ?_); rintro en w2 ⟨rfl, hb2⟩; obtain ⟨z0, z1, z2, zb⟩ := HZ.out _ hb2; obtain ⟨⟨z0, y1, y2⟩, _⟩ := blk_cells3 z0; clear z1 z2 zb))
        | (go_at_call 67; ((with_reducible refine (ce _ hb2).mono ?_); rintro en w3 ⟨v, F', rfl, ho3, hl3, hf3, hb3⟩; have hb33 := hb2.trans (hb3.mono hb2.size); obtain ⟨z0', z1, z2, zb⟩ := HZ.out _ hb33; obtain ⟨⟨z0', y1', y2'⟩, _⟩ := blk_cells3 z0'; have HO3 := Lib.hid ho3; have HL3 := Lib.hid hl3; have HF3 := Lib.hid hf3; obtain ⟨Av, cv, rfl⟩ := own_slice ho3; clear z1 z2 zb ho3 hl3 hf3))
        | (go_at_call 70; ((with_reducible refine (co _ hb33).mono ?_); rintro en w4 ⟨v2, rfl, hoE, hb4⟩; have hb44 := hb33.trans (hb4.mono hb33.size); obtain ⟨t0, t1, t2, tb⟩ := HZ.out _ hb44; have HT0 := Lib.hid t0; have HT2 := Lib.hid t2; obtain ⟨⟨t0, _, _⟩, _⟩ := blk_cells3 t0; have t10 : w4.cell? ⟨w.heap.size + 1, 0, none⟩ = some (.int .i64 (k : Int)) := t1.cell 0; rw [HEM.out] at hoE; obtain ⟨ge, cce, rfl⟩ := ownsRow_succ hoE; clear t1 t2))
        | fail)
      have hs5 : es.take m = swapEs es k := by have hkm2 : k = m := by omega
                                               subst hkm2; exact (swapEs_last es k HEM.out).symm
      have hmv5 : mv = 0 := by rw [HMV.out, if_neg (by omega)]
      have hc5 := own_below HO3.out hb4
      have hf5 : ∀ x ∈ F', ColFresh w4 w2.heap.size x := fun x hx => (HF3.out x hx).below hb4
      have hk05 := HT0.out
      have hk25 := HT2.out
      have hB5 := hb44
      have hz5 := Nat.le_refl w4.heap.size
      have ho5 := hoE
      obtain ⟨es5, hes5⟩ : ∃ es5, es5 = es := ⟨_, rfl⟩
      rw [← hes5] at ho5
      have hs5 : es5.take m = swapEs es k := by rw [hes5]; exact hs5
      have hew : ∀ y ∈ es5.take m, Word y := by rw [hes5]; exact fun y hy => HEW.out y (List.mem_of_mem_take hy)
      have hw45 := Nat.le_refl w4.heap.size
      obtain ⟨w5, hw5⟩ : ∃ w5, w5 = w4 := ⟨_, rfl⟩
      rw [← hw5] at hc5 hf5 hk05 hk25 hB5 ho5 hz5 ⊢
      obtain ⟨⟨s0', _, _⟩, _⟩ := blk_cells3 hk05
      have hl0 : w.heap.size < w5.heap.size := hk05.lt
      have hcut := fun w => run_headD (some ⟨ge, 0, none⟩) (m + 1) cce m (by obtain ⟨_, _, e, h1, _⟩ := own_cap ho5; injection e with _ _ e; omega) w
      have HC5 := Lib.hid hc5
      have HF5 := Lib.hid hf5
      have HE5 := Lib.hid ho5
      have HK5 := Lib.hid hk25
      have HLT5 := Lib.hid hk25.lt
      have HB5 := Lib.hid hB5
      have hB5d := hB5.drew
      have HS5 := Lib.hid hs5
      have HMV5 := Lib.hid hmv5
      have HEW5 := Lib.hid hew
      have HZ2 := Lib.hid hb2
      have HZ4 := Lib.hid hb33
      have HB4 := Lib.hid hb4
      clear hc5 hf5 ho5 hk05 hk25 hB5 hs5 hmv5 hew hb2 hb3 hb33 hb4 hb44 ca ce co t0 t10 z0 y1 y2 z0' y1' y2' x0 x1 x2 c10 hes5 hw5 hw45
      refine wp_region_held_drew (S := fun w' => w'.cell? ⟨w.heap.size, 0, none⟩ = some (.slice TA Tn Tc)) (by kernel_rfl) s0' (fun hHeld => ?_)
      refine wpAnyH_take (i := 0) (oi := _) (v := ?_) rfl (by kernel_rfl) (by kernel_rfl) (by kernel_rfl) (fun _ _ _ h => h) (Or.inl ⟨by rfl, ?_⟩) hHeld ?_
      rotate_left
      · intro w hSw; obtain s0 := hSw; go_simp; try with_reducible rfl
      simp only [Act.put, List.getElem_toArray, List.getElem_cons_succ, List.getElem_cons_zero, List.setIfInBounds_toArray, List.set_cons_zero, List.set_cons_succ]
      refine wpAnyH_take (i := 1) (oi := _) (v := ?_) rfl (by kernel_rfl) (by kernel_rfl) (by kernel_rfl) (fun _ _ _ h => h) (Or.inl ⟨by rfl, ?_⟩) hHeld ?_
      rotate_left
      · intro w hSw; obtain s0 := hSw; go_simp; try with_reducible rfl
      simp only [Act.put, List.getElem_toArray, List.getElem_cons_succ, List.getElem_cons_zero, List.setIfInBounds_toArray, List.set_cons_zero, List.set_cons_succ]
      refine wpAnyH_take (i := 3) (oi := _) (v := ?_) rfl (by kernel_rfl) (by kernel_rfl) (by kernel_rfl) (fun _ _ _ h => h) (Or.inl ⟨by rfl, ?_⟩) hHeld ?_
      rotate_left
      · intro w hSw; obtain s0 := hSw; go_simp; try with_reducible rfl
      simp only [Act.put, List.getElem_toArray, List.getElem_cons_succ, List.getElem_cons_zero, List.setIfInBounds_toArray, List.set_cons_zero, List.set_cons_succ]
      refine wpAnyH_take (i := 4) (oi := _) (v := ?_) rfl (by kernel_rfl) (by kernel_rfl) (by kernel_rfl) (fun _ _ _ h => h) (Or.inl ⟨by rfl, ?_⟩) hHeld ?_
      rotate_left
      · intro w hSw; obtain s0 := hSw; go_simp; try with_reducible rfl
      simp only [Act.put, List.getElem_toArray, List.getElem_cons_succ, List.getElem_cons_zero, List.setIfInBounds_toArray, List.set_cons_zero, List.set_cons_succ]
      refine wpAnyH_take (i := 5) (oi := _) (v := ?_) rfl (by kernel_rfl) (by kernel_rfl) (by kernel_rfl) (fun _ _ _ h => h) (Or.inl ⟨by rfl, ?_⟩) hHeld ?_
      rotate_left
      · intro w hSw; obtain s0 := hSw; go_simp; try with_reducible rfl
      simp only [Act.put, List.getElem_toArray, List.getElem_cons_succ, List.getElem_cons_zero, List.setIfInBounds_toArray, List.set_cons_zero, List.set_cons_succ]
      refine wpAnyH_take (i := 6) (oi := _) (v := ?_) rfl (by kernel_rfl) (by kernel_rfl) (by kernel_rfl) (fun _ _ _ h => h) (Or.inl ⟨by rfl, ?_⟩) hHeld ?_
      rotate_left
      · intro w hSw; obtain s0 := hSw; go_simp; try with_reducible rfl
      simp only [Act.put, List.getElem_toArray, List.getElem_cons_succ, List.getElem_cons_zero, List.setIfInBounds_toArray, List.set_cons_zero, List.set_cons_succ]
      refine wpAnyH_take (i := 8) (oi := _) (v := ?_) rfl (by kernel_rfl) (by kernel_rfl) (by kernel_rfl) (fun _ _ _ h => h) (Or.inl ⟨by rfl, ?_⟩) hHeld ?_
      rotate_left
      · intro w hSw; obtain s0 := hSw; go_simp; try with_reducible rfl
      simp only [Act.put, List.getElem_toArray, List.getElem_cons_succ, List.getElem_cons_zero, List.setIfInBounds_toArray, List.set_cons_zero, List.set_cons_succ]
      refine wpAnyH_ready (rs := [2]) (by kernel_rfl) (by simp) (AllReadyH.cons (o := _) rfl (fun K hK => ?_) AllReadyH.nil)
      go_simp
      refine (cu _ hB5d).mono ?_
      rintro en w6 ⟨vt, rfl, hot, hb6⟩
      obtain ⟨At, ct, rfl⟩ := own_slice hot
      have hb6 : Below w5.heap.size w5 w6 := (Below.refl w5.heap.size w5).drew.trans hb6
      have hk6 := HK5.out.below hb6 HLT5.out
      obtain ⟨⟨q0, q1, q2⟩, qf⟩ := blk_cells3 hk6
      have qf0 := qf 0
      have qf1 := qf 1
      have qf2 := qf 2
      have HOT := Lib.hid hot
      have HK6 := Lib.hid hk6
      clear qf hot hk6
      refine hK.out _ _ (cell_below' hb6 s0' hl0) (fun hHeld => ?_)
      clear hK K
      try simp only [Act.put, List.getElem_toArray, List.getElem_cons_succ, List.getElem_cons_zero, List.setIfInBounds_toArray, List.set_cons_zero, List.set_cons_succ]
      refine wpAnyH_take (i := 7) (oi := _) (v := ?_) rfl (by kernel_rfl) (by kernel_rfl) (by kernel_rfl) (fun _ _ _ h => h) (Or.inl ⟨by rfl, ?_⟩) hHeld ?_
      rotate_left
      · intro w hSw; obtain s0 := hSw; go_simp; try with_reducible rfl
      simp only [Act.put, List.getElem_toArray, List.getElem_cons_succ, List.getElem_cons_zero, List.setIfInBounds_toArray, List.set_cons_zero, List.set_cons_succ]
      refine wpAnyH_ready (rs := [9]) (by kernel_rfl) (by simp) (AllReadyH.cons (o := _) rfl (fun K hK => ?_) AllReadyH.nil)
      go_simp
      skip
      refine hK.out _ _ (far3 _ _ _ trivial (cell_below' hb6 s0' hl0) (by omega)) (fun hHeld => ?_)
      clear hK K
      try simp only [Act.put, List.getElem_toArray, List.getElem_cons_succ, List.getElem_cons_zero, List.setIfInBounds_toArray, List.set_cons_zero, List.set_cons_succ]
      refine wpAnyH_take (i := 10) (oi := _) (v := ?_) rfl (by kernel_rfl) (by kernel_rfl) (by kernel_rfl) (fun _ _ _ h => h) (Or.inl ⟨by rfl, ?_⟩) hHeld ?_
      rotate_left
      · intro w hSw; obtain s0 := hSw; go_simp; try with_reducible rfl
      simp only [Act.put, List.getElem_toArray, List.getElem_cons_succ, List.getElem_cons_zero, List.setIfInBounds_toArray, List.set_cons_zero, List.set_cons_succ]
      refine wpAnyH_take (i := 11) (oi := _) (v := ?_) rfl (by kernel_rfl) (by kernel_rfl) (by kernel_rfl) (fun _ _ _ h => h) (Or.inl ⟨by rfl, ?_⟩) hHeld ?_
      rotate_left
      · intro w hSw; obtain s0 := hSw; go_simp; try with_reducible rfl
      simp only [Act.put, List.getElem_toArray, List.getElem_cons_succ, List.getElem_cons_zero, List.setIfInBounds_toArray, List.set_cons_zero, List.set_cons_succ]
      refine wpAnyH_done (by kernel_rfl) ?_ _
      go_wp2_with fail
      refine bodyPost_ret (v := .tuple #[.agg #[.slice At ty.length ct, .slice Av F'.length cv, .slice (some ⟨ge, 0, none⟩) m cce], .int .u64 0, .int .i64 0]) (by simp [results, Try.results33, go_sem, *]) rfl ?_
      show SwpR _ _ _ w _ _
      rw [HMV5.out]
      have hzz : w.heap.size ≤ w5.heap.size := by omega
      have hbig := (hB.trans (HB5.out.mono hB.size)).trans (hb6.mono hzz)
      have hfr : TabFresh w6 w.heap.size ⟨At, ty.length, ct, ty, Av, F'.length, cv, F', some ⟨ge, 0, none⟩, m, cce, es5.take m⟩ :=
        ⟨(idFresh_own HOT.out HTW.out).base hzz, own_below (base_le HC5.out (Nat.le_trans hB.size HZ2.out.size)) hb6, fun x hx => (colFresh_base (HF5.out x hx) (Nat.le_trans hB.size HZ2.out.size)).below hb6,
         ((idFresh_own (by have h9 := own_shrink HE5.out (Nat.le_succ m); rw [ids_take] at h9; exact h9) HEW5.out).base (Nat.le_trans hB.size HZ4.out.size)).below hb6⟩
      exact ⟨_, rfl, ⟨⟨At, ty.length, ct, ty, Av, F'.length, cv, F', some ⟨ge, 0, none⟩, m, cce, es5.take m⟩, rfl, by unfold Tab.p; simp only; rw [HL3.out, HS5.out], hfr.set3 HK6.out _ _ _⟩, below_set3 hbig (by omega)⟩
  · have hp : tswP t row = noT := by unfold tswP; rw [if_neg h0]
    have hm : tswM t row = 0 := by unfold tswM; rw [if_neg h0]
    rw [hp, hm]
    unfold Tab.V at ca ⊢
    generalize atE t row = ae at *
    obtain ⟨TA, Tn, Tc, ty, CA, Cn, Cc, F, EA, En, Ec, es⟩ := t
    simp only at *
    clear hW0 hsz h hs k0 k1 k2 hT zz hp hm hn
    rcases hw with rfl | rfl | rfl
    · exact absurd rfl h0
    all_goals
      clear h0
      go_enter Try.func33, Try.ntmps33
      go_upto_region 1 with fail
      rw [← HW.out]
      go_wp2_with (first
        | (go_at_call 79; ((with_reducible refine ca.mono ?_); rintro en w2 ⟨rfl, hb2⟩; obtain ⟨z0, z1, z2, zb⟩ := HZ.out _ hb2; obtain ⟨⟨y0, y1, y2⟩, yf⟩ := blk_cells3 z2; have yf0 := yf 0; have yf1 := yf 1; have yf2 := yf 2; clear z0 z1 z2 yf))
        | fail)
    · refine bodyPost_ret (v := .tuple #[.agg #[.slice none 0 0, .slice none 0 0, .slice none 0 0], .int .u64 0, .int .i64 2]) (by simp [results, Try.results33, go_sem, *]) rfl ⟨_, rfl, tabRes_nil _ _, below_set3 zb (by omega)⟩
    · refine bodyPost_ret (v := .tuple #[.agg #[.slice none 0 0, .slice none 0 0, .slice none 0 0], .int .u64 0, .int .i64 190]) (by simp [results, Try.results33, go_sem, *]) rfl ⟨_, rfl, tabRes_nil _ _, below_set3 zb (by omega)⟩
end Go.Proofs.Ytbcbknajhdaneaa
