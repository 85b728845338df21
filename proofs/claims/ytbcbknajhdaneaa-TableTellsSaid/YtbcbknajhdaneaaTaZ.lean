/- What is proved: contracts of column's does, Set and Swap. -/
import Derived.Test.YtbcbknajhdaneaaTaY
namespace Go.Proofs.Ytbcbknajhdaneaa
open Go.RowKit
set_option linter.unusedVariables false
set_option linter.unusedSimpArgs false
def setE (x : Col) (row : Int) (v : Rw) : Int := if getE x row = 0 then (if ((v.n : Int) != x.W) = true then 140 else 0) else getE x row
def setP (x : Col) (row : Int) (v : Rw) : Int × Int × List Int := if setE x row v = 0 then (x.W, x.R, setC x.l x.W.toNat row.toNat v.l) else (0, 0, [])
def swpP (x : Col) (row : Int) : Int × Int × List Int := if getE x row = 0 then (x.W, x.R - 1, swapC x.l x.W.toNat row.toNat (x.R - 1).toNat) else (0, 0, [])
theorem colFresh_base {w : World} {b b' : Nat} {x : Col} (h : ColFresh w b x) (hb : b' ≤ b) : ColFresh w b' x := ⟨h.1, h.2.base hb⟩
theorem getE_ways (x : Col) (row : Int) : (colB x.W x.R x.n = false ∧ getE x row = 180) ∨ (colB x.W x.R x.n = true ∧ row < 0 ∧ getE x row = 2) ∨ (colB x.W x.R x.n = true ∧ 0 ≤ row ∧ x.R ≤ row ∧ getE x row = 2) ∨ (colB x.W x.R x.n = true ∧ 0 ≤ row ∧ row < x.R ∧ getE x row = 0) := by
  unfold getE
  cases h : colB x.W x.R x.n
  · exact .inl ⟨rfl, by simp⟩
  · by_cases h1 : row < 0
    · exact .inr (.inl ⟨rfl, h1, by simp; omega⟩)
    · by_cases h2 : x.R ≤ row
      · exact .inr (.inr (.inl ⟨rfl, by omega, h2, by simp; omega⟩))
      · exact .inr (.inr (.inr ⟨rfl, by omega, by omega, by simp; omega⟩))
theorem ints_heap {w w' : World} {base : Nat} {e : TypeId} {A : Option Addr} {n : Nat} (h : IntS w base e A n) {g : Nat} {t : TypeId} {cs : Array Value} (hk : Blk w g t cs) (hne : e ≠ t) (hb : ∀ i, i ≠ g → w'.heap[i]? = w.heap[i]?) : IntS w' base e A n := fun h0 => by
  obtain ⟨g', cur, rfl, h1, h2, h3⟩ := h h0
  refine ⟨g', cur, rfl, h1, (hb g' fun e => ?_).trans h2, h3⟩
  subst e
  unfold Blk at hk
  rw [hk] at h2
  injection h2 with h2
  injection h2 with _ h4
  exact hne h4.symm
theorem colFresh_cell {w : World} {base g i : Nat} {x : Col} {t : TypeId} {cs : Array Value} (h : ColFresh w base x) (hk : Blk w g t cs) (hne : 26 ≠ t) (v : Value) : ColFresh (w.setCell ⟨g, i, none⟩ v) base x := by
  obtain ⟨⟨hR, hc⟩, hs⟩ := h
  have hb : ∀ k, k ≠ g → (w.setCell ⟨g, i, none⟩ v).heap[k]? = w.heap[k]? := fun k hk => Below.heap_setCell _ _ _ _ (by simpa using hk)
  have hs' := ints_heap hs hk hne hb
  refine ⟨⟨⟨hR.1, fun h0 => ?_⟩, hc⟩, hs'⟩
  obtain ⟨ad, e, h1, h2⟩ := hR.2 h0
  obtain ⟨g', cur, e', h3, h4, h5⟩ := hs h0
  obtain ⟨g2, cur2, e2, _, h6, _⟩ := hs' h0
  refine ⟨ad, e, by simpa using h1, fun j u hu => ?_⟩
  rw [e'] at e; injection e with e
  rw [e'] at e2; injection e2 with e2; injection e2 with e2
  subst e2
  have hg : g' ≠ g := by
    intro hh
    subst hh
    unfold Blk at hk
    rw [hk] at h4
    injection h4 with h4
    injection h4 with _ h7
    exact hne h7.symm
  rw [← h2 j u hu]
  have hbl : (ad.add j).block = g' := by rw [block_of_add, ← e]
  exact World.cell?_setCell_other _ _ _ _ (fun ee => hg (by have h9 := congrArg Addr.block ee; rw [hbl] at h9; first | exact h9 | exact h9.symm))
theorem fresh_set3 {w : World} {base g : Nat} {x : Col} {t : TypeId} {cs : Array Value} (h : ColFresh w base x) (hk : Blk w g t cs) (hne : 26 ≠ t) (a b c : Value) :
    ColFresh (((w.setCell ⟨g, 0, none⟩ a).setCell ⟨g, 1, none⟩ b).setCell ⟨g, 2, none⟩ c) base x :=
  colFresh_cell (colFresh_cell (colFresh_cell h hk hne a) (hk.set_ 0 a) hne b) ((hk.set_ 0 a).set_ 1 b) hne c
set_option maxRecDepth 100000 in
set_option maxHeartbeats 8000000 in
theorem does_set (x : Col) (row : Int) (bv br : Nat) (v : Rw) (w : World) (hx : ColOk w w.heap.size x) (hcv : w.cell? ⟨bv, 0, none⟩ = some (.slice v.A v.n v.c)) (hcr : w.cell? ⟨br, 0, none⟩ = some (.int .i64 row)) (hbv : bv < w.heap.size) (hbr : br < w.heap.size) (hvo : RwOk w w.heap.size v) :
    Calls Try.prog 119 #[x.V, .int .i64 row, .func (.func 123) #[] #[.pointer (some ⟨bv, 0, none⟩), .pointer (some ⟨br, 0, none⟩)]] w (ColR (setP x row v) (setE x row v) w) := by
  obtain ⟨hRx, hc1, hc2, hw⟩ := hx
  have hl : x.l.length = x.n := by have := hRx.1; rw [ids_len] at this; omega
  have hways := getE_ways x row
  obtain ⟨W, R, XA, n, cx, l⟩ := x
  simp only at hRx hc1 hc2 hw hl hways
  have hB := ((Below.refl w.heap.size w).alloc (Nat.le_refl _) (.cells #[.int .i64 W, .int .i64 R, .slice XA n cx] 68)).alloc (by simp) (.cells #[.int .i64 0, .int .i64 0, .slice none 0 0] 68)
  have k0 := (Blk.new w 68 #[.int .i64 W, .int .i64 R, .slice XA n cx]).alloc (.cells #[.int .i64 0, .int .i64 0, .slice none 0 0] 68)
  have k1 := Blk.new (w.alloc (.cells #[.int .i64 W, .int .i64 R, .slice XA n cx] 68)) 68 #[.int .i64 0, .int .i64 0, .slice none 0 0]
  rw [World.size_alloc] at k1
  have cc := fun (w : World) => ccheck_any W R XA n cx w (Nat.le_trans hc1 hc2)
  obtain ⟨W0, hW0⟩ : ∃ W0, W0 = (w.alloc (.cells #[.int .i64 W, .int .i64 R, .slice XA n cx] 68)).alloc (.cells #[.int .i64 0, .int .i64 0, .slice none 0 0] 68) := ⟨_, rfl⟩
  rw [← hW0] at hB k0 k1
  have c0 : W0.cell? ⟨w.heap.size, 0, none⟩ = some (.int .i64 W) := k0.cell 0
  have c1 : W0.cell? ⟨w.heap.size, 1, none⟩ = some (.int .i64 R) := k0.cell 1
  have c2 : W0.cell? ⟨w.heap.size, 2, none⟩ = some (.slice XA n cx) := k0.cell 2
  have hsz0 : W0.heap.size = w.heap.size + 2 := by rw [hW0]; simp
  have zz := fun (w2 : World) (h : Below W0.heap.size W0 w2) => And.intro (blk_below k0 h) (And.intro (blk_below k1 h) (hB.trans (h.mono hB.size)))
  have HZ := Lib.hid zz
  have HS0 := Lib.hid hsz0
  have HW := Lib.hid hW0
  clear hW0 hsz0
  unfold colV colE at cc
  unfold Col.V colV
  simp only
  have hbad : getE ⟨W, R, XA, n, cx, l⟩ row ≠ 0 → setE ⟨W, R, XA, n, cx, l⟩ row v = getE ⟨W, R, XA, n, cx, l⟩ row ∧ setP ⟨W, R, XA, n, cx, l⟩ row v = (0, 0, []) := by
    intro h
    have h2 : setE ⟨W, R, XA, n, cx, l⟩ row v = getE ⟨W, R, XA, n, cx, l⟩ row := by unfold setE; rw [if_neg h]
    exact ⟨h2, by unfold setP; rw [if_neg (by rw [h2]; exact h)]⟩
  have hgood : getE ⟨W, R, XA, n, cx, l⟩ row = 0 → (((v.n : Int) != W) = true → setE ⟨W, R, XA, n, cx, l⟩ row v = 140 ∧ setP ⟨W, R, XA, n, cx, l⟩ row v = (0, 0, [])) ∧ (((v.n : Int) != W) = false → setE ⟨W, R, XA, n, cx, l⟩ row v = 0 ∧ setP ⟨W, R, XA, n, cx, l⟩ row v = (W, R, setC l W.toNat row.toNat v.l)) := by
    intro h
    refine ⟨fun hh => ?_, fun hh => ?_⟩
    · have h2 : setE ⟨W, R, XA, n, cx, l⟩ row v = 140 := by unfold setE; rw [if_pos h]; simp only [hh, if_true]
      exact ⟨h2, by unfold setP; rw [if_neg (by rw [h2]; decide)]⟩
    · have h2 : setE ⟨W, R, XA, n, cx, l⟩ row v = 0 := by unfold setE; rw [if_pos h]; simp [hh]
      exact ⟨h2, by unfold setP; rw [if_pos h2]⟩

  rcases hways with ⟨hcb, hg⟩ | ⟨hcb, hr1, hg⟩ | ⟨hcb, hr1, hr2, hg⟩ | ⟨hcb, hr1, hr2, hg⟩
  · rw [hcb] at cc
    obtain ⟨hE, hP⟩ := hbad (by rw [hg]; decide)
    rw [hE, hP, hg]
    clear hbad hgood hE hP hg hcb
    go_enter Try.func119, Try.ntmps119
    go_upto_region 1 with fail
    rw [← HW.out]
    go_wp2_with (first
      | (go_at_call 88; ((with_reducible refine (cc _).mono ?_); rintro e w2 ⟨rfl, hb2⟩; obtain ⟨z0, y0, zb⟩ := HZ.out _ hb2; obtain ⟨⟨y0, y1, y2⟩, yf⟩ := blk_cells3 y0; have yf0 := yf 0; have yf1 := yf 1; have yf2 := yf 2; clear yf z0))
      | fail)
    refine bodyPost_ret (v := .tuple #[.agg #[.int .i64 0, .int .i64 0, .slice none 0 0], .int .i64 180]) (by simp [results, Try.results119, go_sem, *]) rfl (colR_err 180 (below_set3 zb (by omega)))
  · rw [hcb] at cc
    obtain ⟨hE, hP⟩ := hbad (by rw [hg]; decide)
    rw [hE, hP, hg]
    clear hbad hgood hE hP hg hcb
    go_enter Try.func119, Try.ntmps119
    go_upto_region 1 with fail
    rw [← HW.out]
    go_wp2_with (first
      | (go_at_call 88; ((with_reducible refine (cc _).mono ?_); rintro e w2 ⟨rfl, hb2⟩; obtain ⟨z0, y0, zb⟩ := HZ.out _ hb2; obtain ⟨⟨y0, y1, y2⟩, yf⟩ := blk_cells3 y0; have yf0 := yf 0; have yf1 := yf 1; have yf2 := yf 2; clear yf z0))
      | fail)
    refine bodyPost_ret (v := .tuple #[.agg #[.int .i64 0, .int .i64 0, .slice none 0 0], .int .i64 2]) (by simp [results, Try.results119, go_sem, *]) rfl (colR_err 2 (below_set3 zb (by omega)))
  · rw [hcb] at cc
    obtain ⟨hE, hP⟩ := hbad (by rw [hg]; decide)
    rw [hE, hP, hg]
    have hd : decide (R ≤ row) = true := decide_eq_true hr2
    clear hbad hgood hE hP hg hcb
    go_enter Try.func119, Try.ntmps119
    go_upto_region 1 with fail
    rw [← HW.out]
    go_wp2_with (first
      | (go_at_call 88; ((with_reducible refine (cc _).mono ?_); rintro e w2 ⟨rfl, hb2⟩; obtain ⟨z0, y0, zb⟩ := HZ.out _ hb2; obtain ⟨⟨z0, z1, z2⟩, zf⟩ := blk_cells3 z0; obtain ⟨⟨y0, y1, y2⟩, yf⟩ := blk_cells3 y0; have yf0 := yf 0; have yf1 := yf 1; have yf2 := yf 2; clear yf zf))
      | fail)
    refine bodyPost_ret (v := .tuple #[.agg #[.int .i64 0, .int .i64 0, .slice none 0 0], .int .i64 2]) (by simp [results, Try.results119, go_sem, *]) rfl (colR_err 2 (below_set3 zb (by omega)))
  · rw [hcb] at cc
    have hg1 := hgood hg
    have hcb' := hcb
    unfold colB at hcb'
    obtain ⟨hW0', hW4, hR0, hR1, hn'⟩ := of_decide_eq_true hcb'
    have hms := mul_small hW0' hW4 hR0 hR1
    obtain ⟨Wn, rfl⟩ := Int.eq_ofNat_of_zero_le hW0'
    obtain ⟨Rn, rfl⟩ := Int.eq_ofNat_of_zero_le hR0
    obtain ⟨k, rfl⟩ := Int.eq_ofNat_of_zero_le hr1
    have hn2 : n = Wn * Rn := by rw [← Int.natCast_mul] at hn'; omega
    have hnn : n ≤ 4194312 := by omega
    have hkR : k < Rn := by omega
    have hd : decide (Rn ≤ k) = false := decide_eq_false (by omega)
    have cj1 := fun (w2 : World) (h : Below W0.heap.size W0 w2) => joined_any (some ⟨w2.heap.size, 0, none⟩) 1 1 [⟨XA, n, cx, l⟩] (w2.alloc (.cells #[.slice XA n cx] 43)) (lit_reads _ _ _ rfl)
      (fun y hy => by rw [List.mem_singleton] at hy; subst hy; exact ⟨((hRx.below (zz w2 h).2.2).alloc (zz w2 h).2.2.size _).more (by have := (zz w2 h).2.2.size; simp; omega), hc1, hc2, hw⟩) (by simp; omega) (by omega)
    simp only [List.flatMap_cons, List.flatMap_nil, List.append_nil] at cj1
    have HL := Lib.hid hl
    have HN := Lib.hid hn2
    have HWd := Lib.hid hw
    have HG1 := Lib.hid hg1
    clear hg1 hbad hgood hg hcb hcb' hRx hB k0 k1 zz hn' hn2 hl hw hms hW0' hR0 hr1
    go_enter Try.func119, Try.ntmps119
    go_upto_region 1 with fail
    rw [← HW.out]
    go_wp2_with (first
      | (go_at_call 88; ((with_reducible refine (cc _).mono ?_); rintro e w2 ⟨rfl, hb2⟩; obtain ⟨z0, y0, zb⟩ := HZ.out _ hb2; obtain ⟨⟨z0, z1, z2⟩, zf⟩ := blk_cells3 z0; clear zf y0))
      | (go_at_call 114; ((with_reducible refine (cj1 _ hb2).mono ?_); rintro e w4 ⟨v1, rfl, ho1, hb4⟩; obtain ⟨A1, c1', rfl⟩ := own_slice ho1; have hb5 : Below W0.heap.size W0 w4 := (hb2.alloc hb2.size _).trans (hb4.mono (by have := hb2.size; simp; omega)); obtain ⟨q0, q1, q2⟩ := HZ.out _ hb5; obtain ⟨⟨x0, x1, x2⟩, xf⟩ := blk_cells3 q0; have xf2 := xf 2; clear xf))
      | fail)
    have hcap : l.length ≤ c1' ∧ c1' ≤ maxLen := by
      obtain ⟨A', c', hv', h1, h2⟩ := own_cap ho1
      injection hv' with ha hn hc
      subst ha hc
      exact ⟨h1, by unfold maxLen; exact h2⟩
    have hk5 := q0.set_ 2 (.slice A1 l.length c1')
    have hk6 := q1.far (show w.heap.size + 1 ≠ (⟨w.heap.size, 2, none⟩ : Addr).block by simp) (.slice A1 l.length c1')
    have ho5 := ho1.kept (grown_cell w4 w.heap.size 2 (.slice A1 l.length c1')) (.inr (own_blk_ne ho1 q0 (by decide)))
    have hb6 := q2.setCell (p := ⟨w.heap.size, 2, none⟩) (Nat.le_refl _) (.slice A1 l.length c1')
    have hlim : (w2.alloc (.cells #[.slice XA n cx] 43)).heap.size ≤ (w4.setCell ⟨w.heap.size, 2, none⟩ (.slice A1 l.length c1')).heap.size := by have := hb4.size; simp at this ⊢; omega
    have hlw : w.heap.size + 3 ≤ (w2.alloc (.cells #[.slice XA n cx] 43)).heap.size := by have := hb2.size; have := HS0.out; simp; omega
    generalize (w2.alloc (.cells #[.slice XA n cx] 43)).heap.size = lim at *
    generalize w4.setCell ⟨w.heap.size, 2, none⟩ (.slice A1 l.length c1') = w5 at *
    clear cj1 cc hb2 hb4 hb5 z0 z1 z2 zb q0 q1 q2 x0 x1 x2 xf2 ho1
    obtain ⟨vA, vn, vc, vl⟩ := v
    simp only at *
    have hv5 := cell_below' hb6 hcv hbv
    have hr5 := cell_below' hb6 hcr hbr
    cases hne : ((vn : Int) != (Wn : Int))
    · obtain ⟨hE, hP⟩ := HG1.out.2 hne
      have HE := Lib.hid hE
      have HP := Lib.hid hP
      have hvn : vn = Wn := by have h : (vn : Int) = (Wn : Int) := (by simpa using hne); omega
      subst hvn
      have cd := set1_ok w.heap.size br bv lim vn Rn k A1 l.length c1' l vA vc vl w5 (by omega) (by omega) (by omega) hlim hk5 hv5 hr5 ho5 ((hvo.1.below hb6).more (by omega)) hkR (by omega) (by omega) (HL.out.trans HN.out) hcap.1 hcap.2
      have hvw := hvo.2.2.2
      have hv5l : w5.heap.size ≥ w.heap.size + 2 := by have := hk6.lt; omega
      simp only at hvw
      clear hE hP hne hv5 hr5 hvo hcv hcr
      go_wp2_with (first | ((with_reducible refine cd.mono ?_); rintro e w6 ⟨rfl, ho6, hb7⟩; have hk7 := hk5.below hb7 (by omega); have hk8 := hk6.below hb7 (by omega); obtain ⟨⟨z0, z1, z2⟩, zf⟩ := blk_cells3 hk7; obtain ⟨⟨y0, y1, y2⟩, yf⟩ := blk_cells3 hk8; have yf0 := yf 0; have yf1 := yf 1; have yf2 := yf 2; clear zf yf) | fail)

      have hnd : ∀ y ∈ setC l vn k vl, Word y := fun y hy => by
        rcases splice_mem hy with hy | hy
        · exact HWd.out y hy
        · exact hvw y hy
      have hlen : (setC l vn k vl).length = l.length := by have := ho6.1; rw [ids_len] at this; omega
      have hf6 : ColFresh w6 w.heap.size ⟨(vn : Int), (Rn : Int), A1, l.length, c1', setC l vn k vl⟩ := colFresh_base (colFresh_own (vn : Int) (Rn : Int) ho6 hnd) (by omega)
      refine bodyPost_ret (v := .tuple #[.agg #[.int .i64 (vn : Int), .int .i64 (Rn : Int), .slice A1 l.length c1'], .int .i64 0]) (by simp [results, Try.results119, go_sem, *]) rfl ?_
      show ColR _ _ w _ _
      rw [HE.out, HP.out]
      refine ⟨⟨(vn : Int), (Rn : Int), A1, l.length, c1', setC l vn k vl⟩, rfl, rfl, ?_, below_set3 (hb6.trans (hb7.mono (by omega))) (by omega)⟩
      exact fresh_set3 hf6 hk8 (by decide) _ _ _
    · obtain ⟨hE, hP⟩ := HG1.out.1 hne
      have HE := Lib.hid hE
      have HP := Lib.hid hP
      have cd := set1_bad w.heap.size br bv lim (Wn : Int) (Rn : Int) A1 l.length c1' l vA vn vc w5 (by omega) (by omega) (by omega) hlim hk5 hv5 ho5 hne
      clear hE hP hne hv5 hr5 hvo hcv hcr
      go_wp2_with (first | ((with_reducible refine cd.mono ?_); rintro e w6 ⟨rfl, ho6, hb7⟩; have hk8 := hk6.below hb7 (by omega); obtain ⟨⟨y0, y1, y2⟩, yf⟩ := blk_cells3 hk8; have yf0 := yf 0; have yf1 := yf 1; have yf2 := yf 2; clear yf) | fail)
      refine bodyPost_ret (v := .tuple #[.agg #[.int .i64 0, .int .i64 0, .slice none 0 0], .int .i64 140]) (by simp [results, Try.results119, go_sem, *]) rfl ?_
      show ColR _ _ w _ _
      rw [HE.out, HP.out]
      exact colR_err 140 (below_set3 (hb6.trans (hb7.mono (by omega))) (by omega))
set_option maxRecDepth 100000 in
set_option maxHeartbeats 8000000 in
theorem does_swap (x : Col) (row : Int) (br : Nat) (w : World) (hx : ColOk w w.heap.size x) (hcr : w.cell? ⟨br, 0, none⟩ = some (.int .i64 row)) (hbr : br < w.heap.size) :
    Calls Try.prog 119 #[x.V, .int .i64 row, .func (.func 120) #[] #[.pointer (some ⟨br, 0, none⟩)]] w (ColR (swpP x row) (getE x row) w) := by
  obtain ⟨hRx, hc1, hc2, hw⟩ := hx
  have hl : x.l.length = x.n := by have := hRx.1; rw [ids_len] at this; omega
  have hways := getE_ways x row
  obtain ⟨W, R, XA, n, cx, l⟩ := x
  simp only at hRx hc1 hc2 hw hl hways
  have hB := ((Below.refl w.heap.size w).alloc (Nat.le_refl _) (.cells #[.int .i64 W, .int .i64 R, .slice XA n cx] 68)).alloc (by simp) (.cells #[.int .i64 0, .int .i64 0, .slice none 0 0] 68)
  have k0 := (Blk.new w 68 #[.int .i64 W, .int .i64 R, .slice XA n cx]).alloc (.cells #[.int .i64 0, .int .i64 0, .slice none 0 0] 68)
  have k1 := Blk.new (w.alloc (.cells #[.int .i64 W, .int .i64 R, .slice XA n cx] 68)) 68 #[.int .i64 0, .int .i64 0, .slice none 0 0]
  rw [World.size_alloc] at k1
  have cc := fun (w : World) => ccheck_any W R XA n cx w (Nat.le_trans hc1 hc2)
  obtain ⟨W0, hW0⟩ : ∃ W0, W0 = (w.alloc (.cells #[.int .i64 W, .int .i64 R, .slice XA n cx] 68)).alloc (.cells #[.int .i64 0, .int .i64 0, .slice none 0 0] 68) := ⟨_, rfl⟩
  rw [← hW0] at hB k0 k1
  have c0 : W0.cell? ⟨w.heap.size, 0, none⟩ = some (.int .i64 W) := k0.cell 0
  have c1 : W0.cell? ⟨w.heap.size, 1, none⟩ = some (.int .i64 R) := k0.cell 1
  have c2 : W0.cell? ⟨w.heap.size, 2, none⟩ = some (.slice XA n cx) := k0.cell 2
  have hsz0 : W0.heap.size = w.heap.size + 2 := by rw [hW0]; simp
  have zz := fun (w2 : World) (h : Below W0.heap.size W0 w2) => And.intro (blk_below k0 h) (And.intro (blk_below k1 h) (hB.trans (h.mono hB.size)))
  have HZ := Lib.hid zz
  have HS0 := Lib.hid hsz0
  have HW := Lib.hid hW0
  clear hW0 hsz0
  unfold colV colE at cc
  unfold Col.V colV
  simp only
  have hbad : getE ⟨W, R, XA, n, cx, l⟩ row ≠ 0 → getE ⟨W, R, XA, n, cx, l⟩ row = getE ⟨W, R, XA, n, cx, l⟩ row ∧ swpP ⟨W, R, XA, n, cx, l⟩ row = (0, 0, []) := by
    intro h
    exact ⟨rfl, by unfold swpP; rw [if_neg h]⟩
  have hgood : getE ⟨W, R, XA, n, cx, l⟩ row = 0 → getE ⟨W, R, XA, n, cx, l⟩ row = 0 ∧ swpP ⟨W, R, XA, n, cx, l⟩ row = (W, R - 1, swapC l W.toNat row.toNat (R - 1).toNat) := by
    intro h
    exact ⟨h, by unfold swpP; rw [if_pos h]⟩

  rcases hways with ⟨hcb, hg⟩ | ⟨hcb, hr1, hg⟩ | ⟨hcb, hr1, hr2, hg⟩ | ⟨hcb, hr1, hr2, hg⟩
  · rw [hcb] at cc
    obtain ⟨hE, hP⟩ := hbad (by rw [hg]; decide)
    rw [hE, hP, hg]
    clear hbad hgood hE hP hg hcb
    go_enter Try.func119, Try.ntmps119
    go_upto_region 1 with fail
    rw [← HW.out]
    go_wp2_with (first
      | (go_at_call 88; ((with_reducible refine (cc _).mono ?_); rintro e w2 ⟨rfl, hb2⟩; obtain ⟨z0, y0, zb⟩ := HZ.out _ hb2; obtain ⟨⟨y0, y1, y2⟩, yf⟩ := blk_cells3 y0; have yf0 := yf 0; have yf1 := yf 1; have yf2 := yf 2; clear yf z0))
      | fail)
    refine bodyPost_ret (v := .tuple #[.agg #[.int .i64 0, .int .i64 0, .slice none 0 0], .int .i64 180]) (by simp [results, Try.results119, go_sem, *]) rfl (colR_err 180 (below_set3 zb (by omega)))
  · rw [hcb] at cc
    obtain ⟨hE, hP⟩ := hbad (by rw [hg]; decide)
    rw [hE, hP, hg]
    clear hbad hgood hE hP hg hcb
    go_enter Try.func119, Try.ntmps119
    go_upto_region 1 with fail
    rw [← HW.out]
    go_wp2_with (first
      | (go_at_call 88; ((with_reducible refine (cc _).mono ?_); rintro e w2 ⟨rfl, hb2⟩; obtain ⟨z0, y0, zb⟩ := HZ.out _ hb2; obtain ⟨⟨y0, y1, y2⟩, yf⟩ := blk_cells3 y0; have yf0 := yf 0; have yf1 := yf 1; have yf2 := yf 2; clear yf z0))
      | fail)
    refine bodyPost_ret (v := .tuple #[.agg #[.int .i64 0, .int .i64 0, .slice none 0 0], .int .i64 2]) (by simp [results, Try.results119, go_sem, *]) rfl (colR_err 2 (below_set3 zb (by omega)))
  · rw [hcb] at cc
    obtain ⟨hE, hP⟩ := hbad (by rw [hg]; decide)
    rw [hE, hP, hg]
    have hd : decide (R ≤ row) = true := decide_eq_true hr2
    clear hbad hgood hE hP hg hcb
    go_enter Try.func119, Try.ntmps119
    go_upto_region 1 with fail
    rw [← HW.out]
    go_wp2_with (first
      | (go_at_call 88; ((with_reducible refine (cc _).mono ?_); rintro e w2 ⟨rfl, hb2⟩; obtain ⟨z0, y0, zb⟩ := HZ.out _ hb2; obtain ⟨⟨z0, z1, z2⟩, zf⟩ := blk_cells3 z0; obtain ⟨⟨y0, y1, y2⟩, yf⟩ := blk_cells3 y0; have yf0 := yf 0; have yf1 := yf 1; have yf2 := yf 2; clear yf zf))
      | fail)
    refine bodyPost_ret (v := .tuple #[.agg #[.int .i64 0, .int .i64 0, .slice none 0 0], .int .i64 2]) (by simp [results, Try.results119, go_sem, *]) rfl (colR_err 2 (below_set3 zb (by omega)))
  · rw [hcb] at cc
    have hg1 := hgood hg
    have hcb' := hcb
    unfold colB at hcb'
    obtain ⟨hW0', hW4, hR0, hR1, hn'⟩ := of_decide_eq_true hcb'
    have hms := mul_small hW0' hW4 hR0 hR1
    obtain ⟨Wn, rfl⟩ := Int.eq_ofNat_of_zero_le hW0'
    obtain ⟨Rn, rfl⟩ := Int.eq_ofNat_of_zero_le hR0
    obtain ⟨k, rfl⟩ := Int.eq_ofNat_of_zero_le hr1
    have hn2 : n = Wn * Rn := by rw [← Int.natCast_mul] at hn'; omega
    have hnn : n ≤ 4194312 := by omega
    have hkR : k < Rn := by omega
    have hd : decide (Rn ≤ k) = false := decide_eq_false (by omega)
    have cj1 := fun (w2 : World) (h : Below W0.heap.size W0 w2) => joined_any (some ⟨w2.heap.size, 0, none⟩) 1 1 [⟨XA, n, cx, l⟩] (w2.alloc (.cells #[.slice XA n cx] 43)) (lit_reads _ _ _ rfl)
      (fun y hy => by rw [List.mem_singleton] at hy; subst hy; exact ⟨((hRx.below (zz w2 h).2.2).alloc (zz w2 h).2.2.size _).more (by have := (zz w2 h).2.2.size; simp; omega), hc1, hc2, hw⟩) (by simp; omega) (by omega)
    simp only [List.flatMap_cons, List.flatMap_nil, List.append_nil] at cj1
    have HL := Lib.hid hl
    have HN := Lib.hid hn2
    have HWd := Lib.hid hw
    have HG1 := Lib.hid hg1
    clear hg1 hbad hgood hg hcb hcb' hRx hB k0 k1 zz hn' hn2 hl hw hms hW0' hR0 hr1
    go_enter Try.func119, Try.ntmps119
    go_upto_region 1 with fail
    rw [← HW.out]
    go_wp2_with (first
      | (go_at_call 88; ((with_reducible refine (cc _).mono ?_); rintro e w2 ⟨rfl, hb2⟩; obtain ⟨z0, y0, zb⟩ := HZ.out _ hb2; obtain ⟨⟨z0, z1, z2⟩, zf⟩ := blk_cells3 z0; clear zf y0))
      | (go_at_call 114; ((with_reducible refine (cj1 _ hb2).mono ?_); rintro e w4 ⟨v1, rfl, ho1, hb4⟩; obtain ⟨A1, c1', rfl⟩ := own_slice ho1; have hb5 : Below W0.heap.size W0 w4 := (hb2.alloc hb2.size _).trans (hb4.mono (by have := hb2.size; simp; omega)); obtain ⟨q0, q1, q2⟩ := HZ.out _ hb5; obtain ⟨⟨x0, x1, x2⟩, xf⟩ := blk_cells3 q0; have xf2 := xf 2; clear xf))
      | fail)
    have hcap : l.length ≤ c1' ∧ c1' ≤ maxLen := by
      obtain ⟨A', c', hv', h1, h2⟩ := own_cap ho1
      injection hv' with ha hn hc
      subst ha hc
      exact ⟨h1, by unfold maxLen; exact h2⟩
    have hk5 := q0.set_ 2 (.slice A1 l.length c1')
    have hk6 := q1.far (show w.heap.size + 1 ≠ (⟨w.heap.size, 2, none⟩ : Addr).block by simp) (.slice A1 l.length c1')
    have ho5 := ho1.kept (grown_cell w4 w.heap.size 2 (.slice A1 l.length c1')) (.inr (own_blk_ne ho1 q0 (by decide)))
    have hb6 := q2.setCell (p := ⟨w.heap.size, 2, none⟩) (Nat.le_refl _) (.slice A1 l.length c1')
    have hlim : (w2.alloc (.cells #[.slice XA n cx] 43)).heap.size ≤ (w4.setCell ⟨w.heap.size, 2, none⟩ (.slice A1 l.length c1')).heap.size := by have := hb4.size; simp at this ⊢; omega
    have hlw : w.heap.size + 3 ≤ (w2.alloc (.cells #[.slice XA n cx] 43)).heap.size := by have := hb2.size; have := HS0.out; simp; omega
    generalize (w2.alloc (.cells #[.slice XA n cx] 43)).heap.size = lim at *
    generalize w4.setCell ⟨w.heap.size, 2, none⟩ (.slice A1 l.length c1') = w5 at *
    clear cj1 cc hb2 hb4 hb5 z0 z1 z2 zb q0 q1 q2 x0 x1 x2 xf2 ho1
    have hr5 := cell_below' hb6 hcr hbr
    obtain ⟨hE, hP⟩ := HG1.out
    have HE := Lib.hid hE
    have HP := Lib.hid hP
    obtain ⟨r, hr⟩ : ∃ r, Rn = r + 1 := ⟨Rn - 1, by omega⟩
    have cd := swap1_any w.heap.size br lim Wn Rn r k A1 l.length c1' l w5 (by omega) (by omega) (by omega) hlim hk5 hr5 ho5 HWd.out hr hkR (by omega) (by omega) (HL.out.trans HN.out) hcap.1 hcap.2
    have hv5l : w5.heap.size ≥ w.heap.size + 2 := by have := hk6.lt; omega
    have HR := Lib.hid hr
    clear hE hP hr5 hcr hr
    go_wp2_with (first | ((with_reducible refine cd.mono ?_); rintro e w6 ⟨rfl, hk7, hf7, hx7, hb7⟩; have hk8 : Blk w6 (w.heap.size + 1) _ _ := (hx7 (w.heap.size + 1) (by omega) (by omega)).trans hk6; obtain ⟨⟨z0, z1, z2⟩, zf⟩ := blk_cells3 hk7; obtain ⟨⟨y0, y1, y2⟩, yf⟩ := blk_cells3 hk8; have yf0 := yf 0; have yf1 := yf 1; have yf2 := yf 2; clear zf yf) | fail)

    refine bodyPost_ret (v := .tuple #[.agg #[.int .i64 (Wn : Int), .int .i64 (r : Int), .slice A1 (r * Wn) (r * Wn)], .int .i64 0]) (by simp [results, Try.results119, go_sem, *]) rfl ?_
    show ColR _ _ w _ _
    rw [HE.out, HP.out]
    refine ⟨⟨(Wn : Int), (r : Int), A1, r * Wn, r * Wn, swapC l Wn k r⟩, rfl, ?_, ?_, below_set3 (hb6.trans (hb7 _ (Nat.le_refl _))) (by omega)⟩
    · rw [HR.out]; show ((Wn : Int), (r : Int), swapC l Wn k r) = _
      have e1 : (((r + 1 : Nat) : Int) - 1) = (r : Int) := by omega
      rw [e1, Int.toNat_natCast, Int.toNat_natCast, Int.toNat_natCast]
    · exact fresh_set3 (colFresh_base hf7 (by omega)) hk8 (by decide) _ _ _
end Go.Proofs.Ytbcbknajhdaneaa
