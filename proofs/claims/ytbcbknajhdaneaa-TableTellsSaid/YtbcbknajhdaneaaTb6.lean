/- What is proved: contracts of table's Values and of the closures of Values, Swap, Push and Set. -/
import Derived.Test.YtbcbknajhdaneaaTb5
namespace Go.Proofs.Ytbcbknajhdaneaa
open Go.RowKit
set_option linter.unusedVariables false
set_option linter.unusedSimpArgs false
theorem values1_any (k : Int) (x : Col) (bp : Nat) (row : Int) (w : World) (hx : ColOk w w.heap.size x) (hc : w.cell? ⟨bp, 0, none⟩ = some (.int .i64 row)) (hbp : bp < w.heap.size) :
    Calls Try.prog 81 #[.int .i64 k, x.V, .pointer (some ⟨bp, 0, none⟩)] w (ValR (getL x row) (getE x row) w) := by
  have hB := (Below.refl w.heap.size w).alloc (Nat.le_refl _) (.cells #[.int .i64 x.W, .int .i64 x.R, .slice x.A x.n x.c] 68)
  obtain ⟨⟨x0, x1, x2⟩, _⟩ := blk_cells3 (Blk.new w 68 #[.int .i64 x.W, .int .i64 x.R, .slice x.A x.n x.c])
  have cg := cget_any x row _ ((hx.keep hB).more hB.size)
  have c1 := cell_below' hB hc hbp
  unfold Col.V colV GetP at cg
  unfold Col.V colV
  generalize getL x row = gl at *
  generalize getE x row = ge at *
  obtain ⟨xW, xR, xA, xn, xc, xl⟩ := x
  simp only at *
  clear hx hc
  go_enter Try.func81, Try.ntmps81
  go_wp2_with (first | (go_at_call 82; ((with_reducible refine cg.mono ?_); rintro en w3 ⟨v, rfl, ho3, hb3⟩)) | fail)
  go_ret2
  exact ⟨v, rfl, base_le ho3 hB.size, hB.trans (hb3.mono hB.size)⟩
def vsE (t : Tab) (row : Int) : Int := if atE t row = 0 then eachE (fun _ x => getE x row) 0 t.F else atE t row
def vsL (t : Tab) (row : Int) : List (List Int) := if vsE t row = 0 then eachL (fun _ x => getL x row) 0 t.F else []
theorem vsL_eq (t : Tab) (row : Int) (h : atE t row = 0) : vsL t row = eachQ (fun _ x => getL x row) (fun _ x => getE x row) t.F := by
  unfold vsL eachQ vsE
  rw [if_pos h]
theorem getL_word {x : Col} {row : Int} (hw : ∀ y ∈ x.l, Word y) : ∀ y ∈ getL x row, Word y := by
  unfold getL
  split
  · exact fun y hy => hw y (chunk_mem hy)
  · simp
set_option maxRecDepth 100000 in
set_option maxHeartbeats 2000000 in
theorem tvalues_any (t : Tab) (row : Int) (w : World) (h : TabOk w w.heap.size t) (hs : TabSm t) (hn : t.Cn ≤ 65536) : Calls Try.prog 28 #[t.V, .int .i64 row] w (EachV (vsL t row) (vsE t row) w) := by
  obtain ⟨W0, hW0⟩ : ∃ W0, W0 = (w.alloc (.cells #[.slice t.TA t.Tn t.Tc, .slice t.CA t.Cn t.Cc, .slice t.EA t.En t.Ec] 25)).alloc (.cells #[.int .i64 row] 3) := ⟨_, rfl⟩
  have hB : Below w.heap.size w W0 := by rw [hW0]; exact ((Below.refl w.heap.size w).alloc (Nat.le_refl _) _).alloc (by simp) _
  have hsz : W0.heap.size = w.heap.size + 2 := by rw [hW0]; simp
  have k0 : Blk W0 w.heap.size 25 #[.slice t.TA t.Tn t.Tc, .slice t.CA t.Cn t.Cc, .slice t.EA t.En t.Ec] := by rw [hW0]; exact (Blk.new w _ _).alloc _
  have k1 : Blk W0 (w.heap.size + 1) 3 #[.int .i64 row] := by
    rw [hW0]
    have h := Blk.new (w.alloc (.cells #[.slice t.TA t.Tn t.Tc, .slice t.CA t.Cn t.Cc, .slice t.EA t.En t.Ec] 25)) 3 #[.int .i64 row]
    rw [World.size_alloc] at h
    exact h
  have hT := (h.keep hB).more hB.size
  have ca := tat_any t row W0 hT hs
  have c10 : W0.cell? ⟨w.heap.size + 1, 0, none⟩ = some (.int .i64 row) := k1.cell 0
  obtain ⟨⟨x0, x1, x2⟩, _⟩ := blk_cells3 k0
  have hE := Lib.hid (vsL_eq t row)
  have hV := Lib.hid (show vsE t row = if atE t row = 0 then eachE (fun _ x => getE x row) 0 t.F else atE t row from rfl)
  have hw := atE_ways t row
  have ce := fun (w2 : World) (hb : Below W0.heap.size W0 w2) => eachv_any t 81 (w.heap.size + 1) (fun _ x => getL x row) (fun _ x => getE x row) w2 ((hT.cs.below hb).more hb.size) hn
    (enters_of Try.func81 (by kernel_rfl) rfl)
    (fun k x hx W hbW => values1_any k x (w.heap.size + 1) row W (((hT.csok x (List.mem_of_getElem? hx)).keep (hb.trans (hbW.mono hb.size))).more (Nat.le_trans hb.size hbW.size)) (cell_below' (hb.trans (hbW.mono hb.size)) c10 (by omega)) (by have := hb.size; have := hbW.size; omega))
    (fun k x hx => getL_word (hT.csok x (List.mem_of_getElem? hx)).2.2.2)
  have zz := fun (w2 : World) (hb : Below W0.heap.size W0 w2) => blk_cells3 (blk_below k0 hb)
  have HZ := Lib.hid zz
  have HW := Lib.hid hW0
  have HS := Lib.hid hsz
  have HVL := Lib.hid (show vsL t row = if vsE t row = 0 then eachL (fun _ x => getL x row) 0 t.F else [] from rfl)
  unfold Tab.V at ca ce ⊢
  clear hW0 hsz h hs k0 k1 hT zz
  by_cases h0 : atE t row = 0
  · rw [h0] at ca
    have hL := hE.out h0
    have hV2 := hV.out
    rw [if_pos h0] at hV2
    rw [hL, hV2]
    generalize eachQ (fun _ x => getL x row) (fun _ x => getE x row) t.F = ls at *
    generalize eachE (fun _ x => getE x row) 0 t.F = er at *
    obtain ⟨TA, Tn, Tc, ty, CA, Cn, Cc, F, EA, En, Ec, es⟩ := t
    simp only at *
    clear h0 hw hE hV hL hV2 HVL
    unfold EachV at ce
    go_enter Try.func28, Try.ntmps28
    go_upto_region 1 with fail
    rw [← HW.out]
    go_wp2_with (first
      | (go_at_call 79; ((with_reducible refine ca.mono ?_); rintro en w2 ⟨rfl, hb2⟩; obtain ⟨⟨z0, z1, z2⟩, _⟩ := HZ.out _ hb2))
      | (go_at_call 80; ((with_reducible refine (ce _ hb2).mono ?_); rintro en w3 ⟨v, F', rfl, ho3, hl3, hf3, hb3⟩; have HO3 := Lib.hid ho3; have HL3 := Lib.hid hl3; have HF3 := Lib.hid hf3; clear ho3 hl3 hf3))
      | fail)
    have hz := Nat.le_trans hB.size hb2.size
    go_ret2
    exact ⟨v, F', rfl, base_le HO3.out hz, HL3.out, fun x hx => colFresh_base (HF3.out x hx) hz, (hB.trans (hb2.mono hB.size)).trans (hb3.mono hz)⟩
  · have hV2 := hV.out
    rw [if_neg h0] at hV2
    have hL : vsL t row = [] := by rw [HVL.out, hV2, if_neg h0]
    rw [hL, hV2]
    generalize atE t row = ae at *
    obtain ⟨TA, Tn, Tc, ty, CA, Cn, Cc, F, EA, En, Ec, es⟩ := t
    simp only at *
    clear hE hV hL hV2 ce HVL
    rcases hw with rfl | rfl | rfl
    · exact absurd rfl h0
    all_goals
      go_enter Try.func28, Try.ntmps28
      go_upto_region 1 with fail
      rw [← HW.out]
      go_wp2_with (first
        | (go_at_call 79; ((with_reducible refine ca.mono ?_); rintro en w2 ⟨rfl, hb2⟩))
        | fail)
      go_ret2
      exact ⟨_, [], rfl, World.ownsRow_nil _ _ _ _, rfl, by simp, hB.trans (hb2.mono hB.size)⟩
theorem swapc_any (k : Int) (x : Col) (bp : Nat) (row : Int) (w : World) (hx : ColOk w w.heap.size x) (hc : w.cell? ⟨bp, 0, none⟩ = some (.int .i64 row)) (hbp : bp < w.heap.size) :
    Calls Try.prog 85 #[.int .i64 k, x.V, .pointer (some ⟨bp, 0, none⟩)] w (ColR (swpP x row) (getE x row) w) := by
  obtain ⟨W0, hW0⟩ : ∃ W0, W0 = (w.alloc (.cells #[.int .i64 x.W, .int .i64 x.R, .slice x.A x.n x.c] 68)).alloc (.cells #[.int .i64 0, .int .i64 0, .slice none 0 0] 68) := ⟨_, rfl⟩
  have hB : Below w.heap.size w W0 := by rw [hW0]; exact ((Below.refl w.heap.size w).alloc (Nat.le_refl _) _).alloc (by simp) _
  have hsz : W0.heap.size = w.heap.size + 2 := by rw [hW0]; simp
  have k0 : Blk W0 w.heap.size 68 #[.int .i64 x.W, .int .i64 x.R, .slice x.A x.n x.c] := by rw [hW0]; exact (Blk.new w _ _).alloc _
  have k1 : Blk W0 (w.heap.size + 1) 68 #[.int .i64 0, .int .i64 0, .slice none 0 0] := by
    rw [hW0]
    have h := Blk.new (w.alloc (.cells #[.int .i64 x.W, .int .i64 x.R, .slice x.A x.n x.c] 68)) 68 #[.int .i64 0, .int .i64 0, .slice none 0 0]
    rw [World.size_alloc] at h
    exact h
  obtain ⟨⟨x0, x1, x2⟩, _⟩ := blk_cells3 k0
  have cg := cswap_any x row W0 ((hx.keep hB).more hB.size)
  have c1 := cell_below' hB hc hbp
  have HK := Lib.hid k1
  have HS := Lib.hid hsz
  have HW := Lib.hid hW0
  unfold Col.V colV ColR at cg
  unfold Col.V colV
  generalize swpP x row = gl at *
  generalize getE x row = ge at *
  obtain ⟨xW, xR, xA, xn, xc, xl⟩ := x
  simp only at *
  clear hx hc hW0 hsz k0 k1
  go_enter Try.func85, Try.ntmps85
  go_upto_region 1 with fail
  rw [← HW.out]
  go_wp2_with (first | (go_at_call 86; ((with_reducible refine cg.mono ?_); rintro en w3 ⟨x', rfl, hp, hf, hb3⟩; obtain ⟨xW', xR', xA', xn', xc', xl'⟩ := x'; have hk := HK.out.below hb3 (by have := HS.out; omega); obtain ⟨⟨q0, q1, q2⟩, qf⟩ := blk_cells3 hk; have qf0 := qf 0; have qf1 := qf 1; have qf2 := qf 2; have HF := Lib.hid hf; have HP := Lib.hid hp; have HK2 := Lib.hid hk; unfold Col.V colV; (try simp only); clear hf hp hk qf)) | fail)
  refine bodyPost_ret (v := .tuple #[.agg #[.int .i64 xW', .int .i64 xR', .slice xA' xn' xc'], .int .i64 ge]) (by simp [results, Try.results85, go_sem, *]) rfl ?_
  exact ⟨⟨xW', xR', xA', xn', xc', xl'⟩, rfl, HP.out, fresh_set3 (colFresh_base HF.out hB.size) HK2.out (by decide) _ _ _, below_set3 (hB.trans (hb3.mono hB.size)) (by omega)⟩
end Go.Proofs.Ytbcbknajhdaneaa
