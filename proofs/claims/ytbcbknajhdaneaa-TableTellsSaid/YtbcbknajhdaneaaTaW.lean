/- What is proved: the contract of column's Push of one value. -/
import Derived.Test.YtbcbknajhdaneaaTaV
namespace Go.Proofs.Ytbcbknajhdaneaa
open Go.RowKit
set_option linter.unusedVariables false
set_option linter.unusedSimpArgs false
/-- a slice over whole numbers in memory made since -/
def IntS (w : World) (base : Nat) (e : TypeId) (A : Option Addr) (n : Nat) : Prop :=
  0 < n → ∃ g cur, A = some ⟨g, 0, none⟩ ∧ base ≤ g ∧ w.heap[g]? = some (.cells cur e (0, 0)) ∧ ∀ j, j < n → ∃ x, cur[j]? = some (.int .u64 x) ∧ Word x
theorem IntS.below {w w' : World} {base : Nat} {e : TypeId} {A : Option Addr} {n : Nat} (h : IntS w base e A n) (hb : Below w.heap.size w w') : IntS w' base e A n := fun h0 => by
  obtain ⟨g, cur, rfl, h1, h2, h3⟩ := h h0
  exact ⟨g, cur, rfl, h1, (hb.block g (Array.getElem?_eq_some_iff.1 h2).1).trans h2, h3⟩
theorem IntS.base {w : World} {base base' : Nat} {e : TypeId} {A : Option Addr} {n : Nat} (h : IntS w base e A n) (hb : base' ≤ base) : IntS w base' e A n := fun h0 => by
  obtain ⟨g, cur, rfl, h1, h2, h3⟩ := h h0
  exact ⟨g, cur, rfl, Nat.le_trans hb h1, h2, h3⟩
theorem ints_of_own {w : World} {base n : Nat} {e : TypeId} {A : Option Addr} {c : Nat} {l : List Int} (h : w.ownsRow base e 1 (.slice A n c) n (ids l)) (hw : ∀ y ∈ l, Word y) : IntS w base e A n := fun h0 => by
  have hl : l.length = n := by have := h.1; rw [ids_len] at this; omega
  rcases h.2 with ⟨_, hn⟩ | ⟨g, cap, cur, hv, h1, h2, h3, h4, h5, h6⟩
  · omega
  · injection hv with hv
    subst hv
    refine ⟨g, cur, rfl, h1, h2, fun j hj => ?_⟩
    have e1 := List.getElem?_eq_getElem (l := l) (i := j) (by omega)
    generalize l[j]'(by omega) = x at e1
    refine ⟨x, ?_, hw x (List.mem_of_getElem? e1)⟩
    have h7 : (cur.toList.take (n * 1))[j]? = some (.int .u64 x) := by rw [h6]; unfold ids; rw [List.getElem?_map, e1]; rfl
    rw [List.getElem?_take, if_pos (by omega)] at h7
    simpa using h7
/-- a column in memory made since -/
def ColFresh (w : World) (base : Nat) (x : Col) : Prop := ColOk w w.heap.size x ∧ IntS w base 26 x.A x.n
theorem ColFresh.below {w w' : World} {base : Nat} {x : Col} (h : ColFresh w base x) (hb : Below w.heap.size w w') : ColFresh w' base x := ⟨(h.1.keep hb).more hb.size, h.2.below hb⟩
theorem colFresh_own {w : World} {base n : Nat} {A : Option Addr} {c : Nat} {l : List Int} (W R : Int) (h : w.ownsRow base 26 1 (.slice A n c) n (ids l)) (hw : ∀ y ∈ l, Word y) : ColFresh w base ⟨W, R, A, n, c, l⟩ := by
  obtain ⟨A', c', hv, h1, h2⟩ := own_cap h
  injection hv with ha hn hc
  subst ha hc
  exact ⟨⟨Reads.of_own h, h1, by unfold maxLen; exact h2, hw⟩, ints_of_own h hw⟩
theorem colFresh_nil (w : World) (base : Nat) (W R : Int) : ColFresh w base ⟨W, R, none, 0, 0, []⟩ := ⟨⟨Reads.none_, Nat.le_refl _, Nat.zero_le _, by simp⟩, fun h => absurd h (Nat.lt_irrefl 0)⟩
theorem lit_reads (w : World) (t : TypeId) (cs : Array Value) {size n : Nat} (hn : cs.size = n * size) : Reads (w.alloc (.cells cs t)) (w.alloc (.cells cs t)).heap.size size (some ⟨w.heap.size, 0, none⟩) n cs.toList := by
  refine ⟨by simpa using hn, fun _ => ⟨_, rfl, by simp, fun j u hu => ?_⟩⟩
  rw [add_none, Nat.zero_add]
  exact new_cell w t cs (by simpa using hu)
def Col.p (x : Col) : Int × Int × List Int := (x.W, x.R, x.l)
def pushE (x : Col) (v : Rw) : Int := if colB x.W x.R x.n then (if ((v.n : Int) != x.W) = true then 140 else if 1048578 < x.R + 1 then 6 else 0) else 180
def pushP (x : Col) (v : Rw) : Int × Int × List Int := if pushE x v = 0 then (x.W, x.R + 1, x.l ++ v.l) else (0, 0, [])
/-- a column, and how it went -/
def ColR (p : Int × Int × List Int) (er : Int) (w : World) (e : Ending) (w' : World) : Prop :=
  ∃ x : Col, e = .returned (.tuple #[x.V, .int .i64 er]) ∧ x.p = p ∧ ColFresh w' w.heap.size x ∧ Below w.heap.size w w'
theorem colR_err (er : Int) {w w' : World} (hb : Below w.heap.size w w') : ColR (0, 0, []) er w (.returned (.tuple #[.agg #[.int .i64 0, .int .i64 0, .slice none 0 0], .int .i64 er])) w' :=
  ⟨⟨0, 0, none, 0, 0, []⟩, rfl, rfl, colFresh_nil _ _ _ _, hb⟩
theorem below_set3 {B g : Nat} {w w' : World} {a b c : Value} (h : Below B w w') (hg : B ≤ g) : Below B w (((w'.setCell ⟨g, 0, none⟩ a).setCell ⟨g, 1, none⟩ b).setCell ⟨g, 2, none⟩ c) :=
  ((h.setCell (p := ⟨g, 0, none⟩) hg _).setCell (p := ⟨g, 1, none⟩) hg _).setCell (p := ⟨g, 2, none⟩) hg _
theorem grown_set3 (w : World) (g : Nat) (a b c : Value) : w.grownBy (((w.setCell ⟨g, 0, none⟩ a).setCell ⟨g, 1, none⟩ b).setCell ⟨g, 2, none⟩ c) (some g) := by
  refine ⟨rfl, rfl, rfl, by simp, fun k _ hk => ?_⟩
  have hne : k ≠ g := fun e => hk (by rw [e])
  rw [Below.heap_setCell _ _ _ _ (by simpa using hne), Below.heap_setCell _ _ _ _ (by simpa using hne), Below.heap_setCell _ _ _ _ (by simpa using hne)]
theorem blk_size {w : World} {g : Nat} {t : TypeId} {cs : Array Value} (h : Blk w g t cs) : g < w.heap.size := h.lt
set_option maxRecDepth 100000 in
set_option maxHeartbeats 8000000 in
theorem cpush_any (x : Col) (v : Rw) (A : Option Addr) (c : Nat) (w : World) (hx : ColOk w w.heap.size x) (hv : RwOk w w.heap.size v) (hR : Reads w w.heap.size 1 A 1 (rws [v])) :
    Calls Try.prog 69 #[x.V, .slice A 1 c] w (ColR (pushP x v) (pushE x v) w) := by
  have hxo := hx
  obtain ⟨hRx, hc1, hc2, hw⟩ := hx
  have hl : x.l.length = x.n := by have := hRx.1; rw [ids_len] at this; omega
  obtain ⟨W, R, XA, n, cx, l⟩ := x
  simp only at hRx hc1 hc2 hw hl
  have hB := ((Below.refl w.heap.size w).alloc (Nat.le_refl _) (.cells #[.int .i64 W, .int .i64 R, .slice XA n cx] 68)).alloc (by simp) (.cells #[.int .i64 0, .int .i64 0, .slice none 0 0] 68)
  have k0 := (Blk.new w 68 #[.int .i64 W, .int .i64 R, .slice XA n cx]).alloc (.cells #[.int .i64 0, .int .i64 0, .slice none 0 0] 68)
  have k1 := Blk.new (w.alloc (.cells #[.int .i64 W, .int .i64 R, .slice XA n cx] 68)) 68 #[.int .i64 0, .int .i64 0, .slice none 0 0]
  rw [World.size_alloc] at k1
  have cc := fun (w : World) => ccheck_any W R XA n cx w (Nat.le_trans hc1 hc2)
  obtain ⟨W0, hW0⟩ : ∃ W0, W0 = (w.alloc (.cells #[.int .i64 W, .int .i64 R, .slice XA n cx] 68)).alloc (.cells #[.int .i64 0, .int .i64 0, .slice none 0 0] 68) := ⟨_, rfl⟩
  rw [← hW0] at hB k0 k1
  have c0 : W0.cell? ⟨w.heap.size, 0, none⟩ = some (.int .i64 W) := k0.cell 0
  have c1 : W0.cell? ⟨w.heap.size, 1, none⟩ = some (.int .i64 R) := k0.cell 1
  have c2 : W0.cell? ⟨w.heap.size, 2, none⟩ = some (.slice XA n cx) := k0.cell 2
  have zz := fun (w2 : World) (h : Below W0.heap.size W0 w2) => And.intro (blk_cells3 (blk_below k0 h)) (And.intro (blk_cells3 (blk_below k1 h)) (hB.trans (h.mono hB.size)))
  have cf := fun (w2 : World) (h : Below W0.heap.size W0 w2) => cf1_any A c v w.heap.size W w2 (zz w2 h).1.1.1 ((hR.below (zz w2 h).2.2).more (zz w2 h).2.2.size)
  have HZ := Lib.hid zz
  have hsz0 : W0.heap.size = w.heap.size + 2 := by rw [hW0]; simp
  have HS0 := Lib.hid hsz0
  have HW := Lib.hid hW0
  clear hW0 hsz0
  unfold colV colE at cc
  unfold Col.V colV
  simp only
  have hpE : pushE ⟨W, R, XA, n, cx, l⟩ v = if colB W R n then (if ((v.n : Int) != W) = true then 140 else if 1048578 < R + 1 then 6 else 0) else 180 := rfl
  have hpP : pushP ⟨W, R, XA, n, cx, l⟩ v = if pushE ⟨W, R, XA, n, cx, l⟩ v = 0 then (W, R + 1, l ++ v.l) else (0, 0, []) := rfl
  rw [hpP]
  cases hcb : colB W R n
  · rw [hcb] at cc hpE
    have he : pushE ⟨W, R, XA, n, cx, l⟩ v = 180 := hpE
    rw [he, if_neg (by decide)]
    clear he hpE hpP hcb hRx hR hv hxo cf hB k0 k1 zz
    go_enter Try.func69, Try.ntmps69
    go_upto_region 1 with fail
    rw [← HW.out]
    go_wp2_with (first
      | (go_at_call 88; ((with_reducible refine (cc _).mono ?_); rintro e w2 ⟨rfl, hb2⟩; obtain ⟨⟨⟨z0, z1, z2⟩, zf⟩, ⟨⟨y0, y1, y2⟩, yf⟩, zb⟩ := HZ.out _ hb2; have yf0 := yf 0; have yf1 := yf 1; have yf2 := yf 2; clear yf zf))
      | fail)
    refine bodyPost_ret (v := .tuple #[.agg #[.int .i64 0, .int .i64 0, .slice none 0 0], .int .i64 180]) (by simp [results, Try.results69, go_sem, *]) rfl (colR_err 180 (below_set3 zb (by omega)))
  · rw [hcb] at cc hpE
    simp only [if_true] at hpE
    cases hn : ((v.n : Int) != W)
    · rw [hn] at cf hpE
      simp only [Bool.false_eq_true, if_false] at hpE
      by_cases hfull : 1048578 < R + 1
      · rw [if_pos hfull] at hpE
        rw [hpE, if_neg (by decide)]
        have hcb' := hcb
        unfold colB at hcb'
        obtain ⟨hW0', hW4, hR0, hR1, hn'⟩ := of_decide_eq_true hcb'
        clear hpE hpP hcb hcb' hRx hR hv hxo hB k0 k1 zz hn'
        go_enter Try.func69, Try.ntmps69
        go_upto_region 1 with fail
        rw [← HW.out]
        go_wp2_with (first
          | (go_at_call 88; ((with_reducible refine (cc _).mono ?_); rintro e w2 ⟨rfl, hb2⟩; obtain ⟨⟨⟨z0, z1, z2⟩, zf⟩, ⟨⟨y0, y1, y2⟩, yf⟩, zb⟩ := HZ.out _ hb2; have yf0 := yf 0; have yf1 := yf 1; have yf2 := yf 2; clear yf zf))
          | (go_at_call 112; ((with_reducible refine (cf _ hb2).mono ?_); rintro e w3 ⟨rfl, rfl⟩))
          | fail)
        refine bodyPost_ret (v := .tuple #[.agg #[.int .i64 0, .int .i64 0, .slice none 0 0], .int .i64 6]) (by simp [results, Try.results69, go_sem, *]) rfl (colR_err 6 (below_set3 zb (by omega)))
      · rw [if_neg hfull] at hpE
        rw [hpE, if_pos rfl]
        have hcb' := hcb
        unfold colB at hcb'
        obtain ⟨hW0', hW4, hR0, hR1, hn'⟩ := of_decide_eq_true hcb'
        have hms := mul_small hW0' hW4 hR0 hR1
        have hnW : (v.n : Int) = W := by simpa using hn
        have hnn : n ≤ 4194312 := by omega
        have hvn : v.n ≤ 4 := by omega
        obtain ⟨hvR, hvc, hvm, hvw⟩ := hv
        have hvl : v.l.length = v.n := by have := hvR.1; rw [ids_len] at this; omega
        have cj1 := fun (w2 : World) (h : Below W0.heap.size W0 w2) => joined_any (some ⟨w2.heap.size, 0, none⟩) 1 1 [⟨XA, n, cx, l⟩] (w2.alloc (.cells #[.slice XA n cx] 43)) (lit_reads _ _ _ rfl)
          (fun y hy => by rw [List.mem_singleton] at hy; subst hy; exact ⟨((hRx.below (zz w2 h).2.2).alloc (zz w2 h).2.2.size _).more (by have := (zz w2 h).2.2.size; simp; omega), hc1, hc2, hw⟩) (by simp; omega) (by omega)
        obtain ⟨bl, offl, rfl, hbl, gl⟩ := rws_cell hR (k := 0) (x := v) rfl
        have cj2 := fun (wr : World) (Ao : Option Addr) (co : Nat) (hb : Below w.heap.size w wr) (ho : wr.ownsRow w.heap.size 26 1 (.slice Ao l.length co) l.length (ids l)) =>
          joined_any (some ⟨wr.heap.size, 0, none⟩) 2 2 [⟨Ao, l.length, co, l⟩, v] (wr.alloc (.cells #[.slice Ao l.length co, .slice v.A v.n v.c] 43)) (lit_reads _ _ _ rfl)
          (fun y hy => by
            rcases List.mem_cons.1 hy with rfl | hy
            · obtain ⟨A', c', hv', h1, h2⟩ := own_cap ho
              injection hv' with ha hn hc
              subst ha hc
              exact ⟨((Reads.of_own ho).alloc (Nat.le_refl _) _).more (by simp), h1, by unfold maxLen; exact h2, hw⟩
            · rw [List.mem_singleton] at hy; subst hy
              exact ⟨((hvR.below hb).alloc hb.size _).more (by have := hb.size; simp; omega), hvc, hvm, hvw⟩) (by simp; omega) (by omega)
        simp only [List.flatMap_cons, List.flatMap_nil, List.append_nil] at cj1 cj2
        obtain ⟨vA, vn, vc, vl⟩ := v
        simp only [Nat.add_zero] at *
        have HVL := Lib.hid hvl
        have HK1 := Lib.hid k1
        have HL := Lib.hid hl
        have HVR := Lib.hid hvR
        have HWd := Lib.hid hw
        have HVW := Lib.hid hvw
        clear hpE hpP hcb hcb' hRx hR hxo hB k0 k1 zz hn' hnW hvl hvR hn hl hw hvw
        go_enter Try.func69, Try.ntmps69
        go_upto_region 1 with fail
        rw [← HW.out]
        go_wp2_with (first
          | (go_at_call 88; ((with_reducible refine (cc _).mono ?_); rintro e w2 ⟨rfl, hb2⟩; obtain ⟨⟨⟨z0, z1, z2⟩, zf⟩, ⟨⟨y0, y1, y2⟩, yf⟩, zb⟩ := HZ.out _ hb2; clear yf zf))
          | (go_at_call 112; ((with_reducible refine (cf _ hb2).mono ?_); rintro e w3 ⟨rfl, rfl⟩))
          | (go_at_call 114; ((with_reducible refine (cj1 _ hb2).mono ?_); rintro e w4 ⟨v1, rfl, ho1, hb4⟩))
          | fail)
        have hb5 : Below W0.heap.size W0 w4 := (hb2.alloc hb2.size _).trans (hb4.mono (by have := hb2.size; simp; omega))
        have hzb4 := (HZ.out _ hb5).2.2
        have ho5 : w4.ownsRow w.heap.size 26 1 v1 l.length (ids l) := base_le ho1 (by have := zb.size; simp; omega)
        clear cj1 cc cf ho1 hb4 hb2 z0 z1 z2 y0 y1 y2 zb
        obtain ⟨A1, c1', rfl⟩ := own_slice ho5
        go_loopw [7, 33] (fun o i wr => ((i = .int .i64 0 ∧ wr.ownsRow w.heap.size 26 1 o l.length (ids l)) ∨ (i = .int .i64 1 ∧ wr.ownsRow w.heap.size 26 1 o (l ++ vl).length (ids (l ++ vl)))) ∧ Below W0.heap.size W0 wr)
          (fun _ i _ => 1 - (intOf i).toNat)
        case atStart => exact ⟨.inl ⟨rfl, ho5⟩, hb5⟩
        case round =>
          obtain ⟨hor, hb⟩ := hrel
          clear ho5 hb5 hzb4
          obtain ⟨⟨⟨z0, z1, z2⟩, zf⟩, ⟨⟨y0, y1, y2⟩, yf⟩, zb⟩ := HZ.out _ hb
          rcases hor with ⟨rfl, ho⟩ | ⟨rfl, ho⟩
          · have gl2 := cell_below' zb gl hbl
            obtain ⟨Ao, co, rfl⟩ := own_slice ho
            have cj3 := cj2 wr Ao co zb ho
            clear cj2 gl yf zf ho
            go_wp2_with (first
              | (go_at_call 114; ((with_reducible refine cj3.mono ?_); rintro e w5 ⟨v2, rfl, ho2, hb6⟩))
              | fail)
            go_roundw
            case rel => exact ⟨.inr ⟨rfl, base_le ho2 (by have := zb.size; simp; omega)⟩, (hb.alloc hb.size _).trans (hb6.mono (by have := hb.size; simp; omega))⟩
            case measure => simp [intOf]
          · have yf0 := yf 0
            have yf1 := yf 1
            have yf2 := yf 2
            have hk1 := blk_below HK1.out hb
            have HO := Lib.hid ho
            obtain ⟨Ao, co, rfl⟩ := own_slice ho
            clear cj2 gl yf zf ho
            go_wp2_with fail
            have hko := HO.out.kept (grown_set3 wr (w.heap.size + 1) (.int .i64 W) (.int .i64 (R + 1)) (.slice Ao (l.length + vl.length) co)) (.inr (own_blk_ne HO.out hk1 (by decide)))
            refine bodyPost_ret (v := .tuple #[.agg #[.int .i64 W, .int .i64 (R + 1), .slice Ao (l.length + vl.length) co], .int .i64 0]) (by simp [results, Try.results69, go_sem, *]) rfl ⟨⟨W, R + 1, Ao, (l ++ vl).length, co, l ++ vl⟩, by rw [← List.length_append]; rfl, rfl, colFresh_own _ _ hko ?_, below_set3 zb (by omega)⟩
            intro y hy
            rcases List.mem_append.1 hy with hy | hy
            · exact HWd.out y hy
            · exact HVW.out y hy
    · rw [hn] at cf hpE
      simp only [if_true] at hpE
      rw [hpE, if_neg (by decide)]
      clear hpE hpP hcb hRx hR hv hxo hB k0 k1 zz
      go_enter Try.func69, Try.ntmps69
      go_upto_region 1 with fail
      rw [← HW.out]
      go_wp2_with (first
        | (go_at_call 88; ((with_reducible refine (cc _).mono ?_); rintro e w2 ⟨rfl, hb2⟩; obtain ⟨⟨⟨z0, z1, z2⟩, zf⟩, ⟨⟨y0, y1, y2⟩, yf⟩, zb⟩ := HZ.out _ hb2; have yf0 := yf 0; have yf1 := yf 1; have yf2 := yf 2; clear yf zf))
        | (go_at_call 112; ((with_reducible refine (cf _ hb2).mono ?_); rintro e w3 ⟨rfl, rfl⟩))
        | fail)
      refine bodyPost_ret (v := .tuple #[.agg #[.int .i64 0, .int .i64 0, .slice none 0 0], .int .i64 140]) (by simp [results, Try.results69, go_sem, *]) rfl (colR_err 140 (below_set3 zb (by omega)))
end Go.Proofs.Ytbcbknajhdaneaa
