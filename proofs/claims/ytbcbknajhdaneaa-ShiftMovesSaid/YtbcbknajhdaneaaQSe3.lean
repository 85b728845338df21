/- What is proved: the document's Move of a row. -/
import Derived.Test.YtbcbknajhdaneaaQSe2
import Derived.Test.YtbcbknajhdaneaaQStop
namespace Go.Proofs.Ytbcbknajhdaneaa
open Go.RowKit Go.Maps
set_option linter.unusedVariables false
set_option linter.unusedSimpArgs false
/-- what the document's Move hands back -/
def RMovR (b0 : Nat) (pf pt : PT) (r m : Int) (w : World) (e : Ending) (w' : World) : Prop :=
  ∃ (tf tt : Tab), e = .returned (.agg #[.slice tf.TA tf.Tn tf.Tc, .slice tf.CA tf.Cn tf.Cc, .slice tf.EA tf.En tf.Ec, .slice tt.TA tt.Tn tt.Tc, .slice tt.CA tt.Cn tt.Cc, .slice tt.EA tt.En tt.Ec, .int .i64 r, .int .u64 m]) ∧ tf.p = pf ∧ tt.p = pt ∧ TabFresh w' b0 tf ∧ TabFresh w' b0 tt ∧ Below w.heap.size w w'
/-- what its loop keeps -/
structure RmI (f to : Tab) (q : Int) (h : Nat) (k : Nat) (G : List Rw) (s : Value) (w W : World) : Prop where
  kf : Blk W h 25 #[.slice f.TA f.Tn f.Tc, .slice f.CA f.Cn f.Cc, .slice f.EA f.En f.Ec]
  kt : Blk W (h + 1) 25 #[.slice to.TA to.Tn to.Tc, .slice to.CA to.Cn to.Cc, .slice to.EA to.En to.Ec]
  km : Blk W (h + 2) 82 zMov
  own : W.ownsRow h 44 1 s G.length (rws G)
  l : G.map Rw.l = (rV f to q).take k
  fr : ∀ v ∈ G, RwFresh W h v
  b : Below h w W
theorem RmI.below {f to : Tab} {q : Int} {h k : Nat} {G : List Rw} {s : Value} {w W W' : World} (hI : RmI f to q h k G s w W) (hb : Below W.heap.size W W') (hh : h ≤ W.heap.size) : RmI f to q h k G s w W' :=
  ⟨blk_below hI.kf hb, blk_below hI.kt hb, blk_below hI.km hb, own_below hI.own hb, hI.l, fun v hv => (hI.fr v hv).below hb, hI.b.trans (hb.mono hh)⟩
/-- one value more -/
theorem RmI.snoc {f to : Tab} {q : Int} {h k : Nat} {G : List Rw} {s s' : Value} {v : Rw} {w W W' : World} {id : Int} {y : Col} (hI : RmI f to q h k G s w W) (h1 : to.ty[k]? = some id) (h2 : to.F[k]? = some y) (hv : RwFresh W h v) (hl : v.l = cellV f q id y.W)
    (ho : W'.ownsRow h 44 1 s' (G.length + 1) (rws (G ++ [v]))) (hg : W.grownBy W' s.ownBlock) (hh : h ≤ W.heap.size) : RmI f to q h (k + 1) (G ++ [v]) s' w W' := by
  refine ⟨blk_grown_own hI.kf hI.own (by decide) hg, blk_grown_own hI.kt hI.own (by decide) hg, blk_grown_own hI.km hI.own (by decide) hg, by rw [List.length_append]; exact ho, ?_, fun z hz => ?_, hI.b.grown hg (Nat.le_trans (Nat.le_refl _) (Nat.le_trans hh (Nat.le_refl _))) (fun r e => ?_)⟩
  · rw [List.map_append, hI.l, rV_take h1 h2, ← hl]; rfl
  · rcases List.mem_append.1 hz with hz | hz
    · exact rwFresh_grown (hI.fr z hz) hI.own (by decide) hg
    · rw [List.mem_singleton] at hz; subst hz
      exact rwFresh_grown hv hI.own (by decide) hg
  · rcases hI.own.2 with ⟨rfl, _⟩ | ⟨g, cap, cur, rfl, h3, _⟩
    · simp [Value.ownBlock] at e
    · simp [Value.ownBlock] at e
      omega
theorem three_blk (w : World) (t1 t2 t3 : TypeId) (a1 a2 a3 : Array Value) : ∃ W0, W0 = ((w.alloc (.cells a1 t1)).alloc (.cells a2 t2)).alloc (.cells a3 t3) ∧ Below w.heap.size w W0 ∧ W0.heap.size = w.heap.size + 3 ∧
    Blk W0 w.heap.size t1 a1 ∧ Blk W0 (w.heap.size + 1) t2 a2 ∧ Blk W0 (w.heap.size + 2) t3 a3 := by
  refine ⟨_, rfl, (((Below.refl w.heap.size w).alloc (Nat.le_refl _) _).alloc (by simp) _).alloc (by simp; omega) _, by simp, ?_, ?_, ?_⟩
  · exact ((Blk.new w _ _).alloc _).alloc _
  · have h := Blk.new (w.alloc (.cells a1 t1)) t2 a2
    rw [World.size_alloc] at h
    exact h.alloc _
  · have h := Blk.new ((w.alloc (.cells a1 t1)).alloc (.cells a2 t2)) t3 a3
    rw [World.size_alloc, World.size_alloc] at h
    exact h
set_option maxRecDepth 100000 in
set_option maxHeartbeats 16000000 in
theorem rmove_any (b0 : Nat) (f to : Tab) (q m : Nat) (w : World) (hff : TabFresh w b0 f) (hft : TabFresh w b0 to) (hb0 : b0 ≤ w.heap.size) (pf : PSm f.p) (pt : PSm to.p) (hef : f.En ≤ 60000) (het : to.En ≤ 60000) (hbf : tabB f = true) (hbt : tabB to = true) (hm : f.es.length = m + 1) (hq : q ≤ m) (hwo : WidOk f to f.ty.length) :
    Calls Try.prog 52 #[f.V, to.V, .int .i64 (q : Int)] w (RMovR b0 (rswapP f q m) (rpuP to (idAt f.es q) (rV f to q)) (to.En : Int) (if q = m then 0 else idAt f.es m) w) := by
  obtain ⟨W0, hW0, hB, hsz, k0, k1, k2⟩ := three_blk w 25 25 82 #[.slice f.TA f.Tn f.Tc, .slice f.CA f.Cn f.Cc, .slice f.EA f.En f.Ec] #[.slice to.TA to.Tn to.Tc, .slice to.CA to.Cn to.Cc, .slice to.EA to.En to.Ec] zMov
  have hf := hff.ok
  have ht := hft.ok
  have HFF := Lib.hid hff
  have HFT := Lib.hid hft
  have HB00 := Lib.hid hb0
  clear hff hft hb0
  obtain ⟨sf, nf, nf2⟩ := psm_sm hf pf
  obtain ⟨st, nt, nt2⟩ := psm_sm ht pt
  have hTf := fun (W : World) (h : Below w.heap.size w W) => (hf.keep h).more h.size
  have hTt := fun (W : World) (h : Below w.heap.size w W) => (ht.keep h).more h.size
  have ccol := fun (id : Int) (W : World) (h : Below w.heap.size w W) => rcolumn_any f id W (hTf W h) sf.1
  have csw := fun (W : World) (h : Below w.heap.size w W) => rswap_any f q m W (hTf W h) ⟨nf.1, nf2⟩ hbf hm hq
  have hqe : q < f.es.length := by omega
  have hI0 : RmI f to q w.heap.size 0 [] (.slice none 0 0) w W0 := ⟨k0, k1, k2, World.ownsRow_nil _ _ _ _, rfl, by simp, hB⟩
  obtain ⟨⟨c0, c1, c2⟩, _⟩ := blk_cells3 k0
  obtain ⟨⟨d0, d1, d2⟩, _⟩ := blk_cells3 k1
  have hlf := hf.len
  have hlt := ht.len
  have HI0 := Lib.hid hI0
  have HW := Lib.hid hW0
  have HTF := Lib.hid hTf
  have HTT := Lib.hid hTt
  have HLF := Lib.hid hlf
  have HLT := Lib.hid hlt
  have HBF := Lib.hid hbf
  have HBT := Lib.hid hbt
  have HWO := Lib.hid hwo
  have HNF := Lib.hid hf.nl
  have HNT := Lib.hid ht.nl
  have HQE := Lib.hid hqe
  have HSZ := Lib.hid hsz
  have HFW := Lib.hid hf.esw
  have HNN := Lib.hid (And.intro nf nt)
  have HN2 := Lib.hid (And.intro nf2 nt2)
  obtain ⟨iu, hiu, hzu0, hzu1, hzu2⟩ := info_parts info_u64
  obtain ⟨i0, hi0, hz0, hz1, hz2⟩ := info_parts info_val
  have hTn : to.Tn ≤ 65536 := nt.2.1
  generalize (if q = m then 0 else idAt f.es m) = mv at *
  generalize rswapP f q m = pS at *
  unfold TabGot2 at csw
  unfold Tab.V at csw ccol ⊢
  unfold zMov at HW
  clear hW0 hB hsz k0 k1 k2 hf ht hTf hTt sf st nf nt nf2 nt2 hlf hlt hbf hbt hwo hI0 hqe pf pt hm hq
  obtain ⟨TAv, hTAv⟩ : ∃ Z, Z = to.TA := ⟨_, rfl⟩
  have HTAV := Lib.hid hTAv
  rw [← hTAv] at d0 HW ⊢
  clear hTAv
  go_enter Try.func52, Try.ntmps52
  go_upto_region 1 with fail
  rw [← HW.out]
  go_upto_region 3 with fail
  clear c0 c1 c2 d0 d1 d2
  go_loopw [7, 17] (fun s i wr => ∃ (k : Nat) (G : List Rw), k ≤ to.Tn ∧ i = .int .i64 k ∧ RmI f to q w.heap.size k G s w wr)
    (fun _ i _ => to.Tn - (intOf i).toNat)
  case atStart => exact ⟨0, [], Nat.zero_le _, rfl, HI0.out⟩
  case round =>
    obtain ⟨k, G, hk, rfl, hI⟩ := hrel
    obtain ⟨SA, Sc, rfl⟩ := own_slice hI.own
    have hb := hI.b
    have hbz := hb.size
    have HI := Lib.hid hI
    by_cases hlt : k < to.Tn
    · have e1 := List.getElem?_eq_getElem (l := to.ty) (i := k) (by rw [HLT.out.1]; exact hlt)
      generalize to.ty[k]'(by rw [HLT.out.1]; exact hlt) = id at e1
      have e2 := List.getElem?_eq_getElem (l := to.F) (i := k) (by rw [(tabB_parts HBT.out).2.1, HLT.out.1]; exact hlt)
      generalize to.F[k]'(by rw [(tabB_parts HBT.out).2.1, HLT.out.1]; exact hlt) = y at e2
      obtain ⟨bl, ol, hTA, hbl, g⟩ := ids_cell (HTT.out wr hb).ty e1
      obtain rfl : TAv = some ⟨bl, ol, none⟩ := HTAV.out.trans hTA
      obtain ⟨b2, o2, hDA, hl2, cy⟩ := cols_cells (HTT.out wr hb).cs e2
      obtain ⟨y0, y4, _⟩ := tab_col HBT.out HNT.out e2
      obtain ⟨Wy, hWy⟩ := Int.eq_ofNat_of_zero_le y0
      have HE1 := Lib.hid e1
      have HE2 := Lib.hid e2
      have hWy4 : Wy ≤ 4 := by omega
      have hGl : G.length = k := by
        have h9 := congrArg List.length hI.l
        rw [List.length_map, List.length_take, rV_len (tabB_parts HBT.out).2.1, (tabB_parts HBT.out).2.1, HLT.out.1, Nat.min_eq_left hk] at h9
        exact h9
      have i1 : (k : Int) < (to.Tn : Int) := by omega
      have i2 : (k : Int) < (to.Cn : Int) := by have h1 := (List.getElem?_eq_some_iff.1 e2).1; have h2 := HLT.out.2.1; omega
      have hd := (blk_cells3 hI.kt).1.2.1
      rw [hDA] at hd
      have hy0 := cy.1
      rw [hWy] at hy0
      have HWY := Lib.hid hWy
      have HGL := Lib.hid hGl
      clear e1 e2 hTA hDA hl2 cy y0 y4 hWy hGl hI
      obtain ⟨yW, yR, yA, yn, yc, yl⟩ := y
      go_upto_region 6 with (first
        | (refine wpList_make_row wr rfl (.tmp 27) (.tmp 27) 44 rfl 26 iu (.int .u64 0) Try.underlying44 hiu hzu0 hzu1 rfl .i64 .i64 Wy rfl rfl (by rw [hzu2]; omega) (by omega) ?_)
        | fail)
      obtain ⟨wz, hwz⟩ : ∃ wz, wz = wr.alloc (.cells (madeCells #[.int .u64 0] Wy) 26) := ⟨_, rfl⟩
      have hzb : Below wr.heap.size wr wz := by rw [hwz]; exact (Below.refl _ _).alloc (Nat.le_refl _) _
      have hzo := zeros_own wr Wy (made_zeros Wy) (by omega)
      rw [← hwz] at hzo
      rw [← hwz]
      have hIz := HI.out.below hzb hbz
      have hbb := hIz.b
      have cc := ccol id wz hbb
      obtain ⟨⟨c0, c1, c2⟩, _⟩ := blk_cells3 hIz.kf
      have hzf : RwFresh wz w.heap.size ⟨some ⟨wr.heap.size, 0, none⟩, Wy, Wy, zerosL Wy⟩ := colFresh_base (rwFresh_own hzo (fun z hz => by unfold zerosL at hz; rw [List.eq_of_mem_replicate hz]; exact ⟨by omega, by omega⟩)) hbz
      have HIZ := Lib.hid hIz
      have HZF := Lib.hid hzf
      clear hwz hzb hzo hIz hzf ccol csw hd hy0
      rcases ixD_ways f.ty id with ⟨hix, hno⟩ | ⟨j, hix, hj⟩
      · rw [hix] at cc
        have hcv0 : cellV f q id (Wy : Int) = zerosL Wy := by
          unfold cellV
          rw [if_neg (by simpa using hno), Int.toNat_natCast]
        have HCV0 := Lib.hid hcv0
        clear hix hno hcv0
        go_upto_region 9 with (first
          | (go_at_call 32; ((with_reducible refine cc.mono ?_); rintro en w7 ⟨rfl, hb7⟩))
          | fail)
        have hI7 := HIZ.out.below hb7 HIZ.out.b.size
        have hv7 := HZF.out.below hb7
        have hcv : zerosL Wy = cellV f q id yW := by rw [HWY.out]; exact HCV0.out.symm
        clear cc hb7 c0 c1 c2
        generalize (some ⟨wr.heap.size, 0, none⟩ : Option Addr) = vA at *

        have HI7 := Lib.hid hI7
        have HV7 := Lib.hid hv7
        have HCV := Lib.hid hcv
        have hz7 := hI7.b.size
        clear hI7 hv7 hcv
        go_wp2_with (first
          | (at_builtin
             refine wpList_append_any _ rfl (.tmp 41) (.tmp 43) _ rfl w.heap.size 44 i0 _ 1 24 Try.underlying28 hi0 hz0 hz1 hz2 rfl (by omega) _ G.length (rws G) rfl
               ?_ (w7.heap.size + 1) (some ⟨w7.heap.size, 0, none⟩) 1 1 [.slice vA Wy Wy] rfl ?_ (by simp [Value.oneCell']) (by have := HGL.out; simp only [maxLen]; omega) (by have := HGL.out; omega) ?_ ?_
             · exact HI7.out.own.alloc _
             · exact lit_reads1 _ _ _ rfl
             · simp; omega
             intro v1 w1 hown1 hg1 hat1)
          | fail)
        have hI8 := HI7.out.below (W' := w7.alloc (.cells #[.slice vA Wy Wy] 44)) ((Below.refl _ _).alloc (Nat.le_refl _) _) hz7
        have hsn := hI8.snoc HE1.out HE2.out (HV7.out.below ((Below.refl _ _).alloc (Nat.le_refl _) _)) HCV.out (by rw [rws_app]; exact hown1) hg1 (by simp; omega)
        have HSN := Lib.hid hsn
        clear hsn hI8 hown1 hg1 hat1
        go_roundw
        case rel => exact ⟨k + 1, _, by omega, by go_num, HSN.out⟩
        case measure => simp [intOf]; omega
      · rw [hix] at cc
        have hjl := (List.getElem?_eq_some_iff.1 hj).1
        have e4 := List.getElem?_eq_getElem (l := f.F) (i := j) (by rw [(tabB_parts HBF.out).2.1]; exact hjl)
        generalize f.F[j]'(by rw [(tabB_parts HBF.out).2.1]; exact hjl) = x at e4
        obtain ⟨x0, x4, x5, x6, _⟩ := tab_col HBF.out HNF.out e4
        obtain ⟨g1, g2, g3⟩ := getLi_chunk HBF.out HNF.out e4 HQE.out
        have hcv0 : cellV f q id yW = chunk x.l x.W.toNat q := by
          unfold cellV
          rw [if_pos (by simpa using List.mem_of_getElem? hj), ixN_of hix, g1]
        obtain ⟨Wx, hWx⟩ := Int.eq_ofNat_of_zero_le x0
        obtain ⟨b3, o3, hCA, hl3, cx⟩ := cols_cells (HTF.out wz hbb).cs e4
        have hxo := (HTF.out wz hbb).csok x (List.mem_of_getElem? e4)
        have hxn : x.n = Wx * f.es.length := by
          have h9 := HNF.out x (List.mem_of_getElem? e4)
          rw [← h9, x6, hWx, Int.toNat_natCast]
        have hxw : ∀ z ∈ chunk x.l x.W.toNat q, Word z := fun z hz => hxo.2.2.2 z (chunk_mem hz)
        have cv := fun (W : World) (h : Below wz.heap.size wz W) => rvalue_any Wx f.es.length q x.A x.n x.c x.l W ((hxo.1.below h).more h.size) HQE.out (by omega) (by have := (tabB_parts HBF.out).2.2.1; omega) hxn
        have hcx := fun (W : World) (h : Below wz.heap.size wz W) => cx.below h hl3
        have HCX := Lib.hid hcx
        have HKF := Lib.hid (fun (W : World) (h : Below wz.heap.size wz W) => show W.cell? ⟨w.heap.size, 1, none⟩ = some (.slice (some ⟨b3, o3, none⟩) f.Cn f.Cc) from by
          have h9 := (blk_cells3 (blk_below HIZ.out.kf h)).1.2.1
          rw [hCA] at h9
          exact h9)
        have j1 : (j : Int) < (f.Cn : Int) := by have h1 := (List.getElem?_eq_some_iff.1 e4).1; have h2 := HLF.out.2.1; omega
        have j2 : (0 : Int) ≤ (j : Int) := by omega
        have j3 : decide ((0 : Int) ≤ (j : Int)) = true := decide_eq_true j2
        have HCV0 := Lib.hid hcv0
        have HXW := Lib.hid hxw
        rw [hWx] at g3
        have HWX := Lib.hid hWx
        have HX5 := Lib.hid x5
        obtain ⟨xW, xR, xA, xn, xc, xl⟩ := x
        obtain rfl : xW = (Wx : Int) := HWX.out
        obtain rfl : xR = (f.es.length : Int) := HX5.out
        simp only [Int.toNat_natCast] at g3 HCV0 HXW
        generalize hch : chunk xl Wx q = ch at *
        unfold OwnU colV at cv
        clear hix hj hjl e4 x0 x4 x5 x6 g1 g2 hcv0 hWx hCA hl3 cx hxo hxn hxw hcx hch g3
        go_upto_region 8 with (first
          | (go_at_call 32; ((with_reducible refine cc.mono ?_); rintro en w6 ⟨rfl, hb6⟩))
          | fail)
        clear c1
        obtain ⟨x0, x1, x2⟩ := HCX.out w6 hb6
        have c1 := HKF.out w6 hb6
        have cv6 := cv w6 hb6
        clear cv cc
        go_upto_region 9 with (first
          | (go_at_call 83; ((with_reducible refine cv6.mono ?_); rintro en w7 ⟨v7, rfl, ho7, hb7⟩; obtain ⟨vA, vc, rfl⟩ := own_slice ho7))
          | fail)
        have hz6 := hb6.size
        have hIz6 := HIZ.out.below hb6 HIZ.out.b.size
        have hI7 := hIz6.below hb7 hIz6.b.size
        have hv7 : RwFresh w7 w.heap.size ⟨vA, ch.length, vc, ch⟩ := colFresh_base (rwFresh_own ho7 HXW.out) hIz6.b.size
        have hcv : ch = cellV f q id yW := HCV0.out.symm
        clear hb7 hb6 ho7 cv6 hIz6 x0 x1 x2 c1 c0 c2

        have HI7 := Lib.hid hI7
        have HV7 := Lib.hid hv7
        have HCV := Lib.hid hcv
        have hz7 := hI7.b.size
        clear hI7 hv7 hcv
        go_wp2_with (first
          | (at_builtin
             refine wpList_append_any _ rfl (.tmp 41) (.tmp 43) _ rfl w.heap.size 44 i0 _ 1 24 Try.underlying28 hi0 hz0 hz1 hz2 rfl (by omega) _ G.length (rws G) rfl
               ?_ (w7.heap.size + 1) (some ⟨w7.heap.size, 0, none⟩) 1 1 [.slice vA ch.length vc] rfl ?_ (by simp [Value.oneCell']) (by have := HGL.out; simp only [maxLen]; omega) (by have := HGL.out; omega) ?_ ?_
             · exact HI7.out.own.alloc _
             · exact lit_reads1 _ _ _ rfl
             · simp; omega
             intro v1 w1 hown1 hg1 hat1)
          | fail)
        have hI8 := HI7.out.below (W' := w7.alloc (.cells #[.slice vA ch.length vc] 44)) ((Below.refl _ _).alloc (Nat.le_refl _) _) hz7
        have hsn := hI8.snoc HE1.out HE2.out (HV7.out.below ((Below.refl _ _).alloc (Nat.le_refl _) _)) HCV.out (by rw [rws_app]; exact hown1) hg1 (by simp; omega)
        have HSN := Lib.hid hsn
        clear hsn hI8 hown1 hg1 hat1
        go_roundw
        case rel => exact ⟨k + 1, _, by omega, by go_num, HSN.out⟩
        case measure => simp [intOf]; omega
    · have hke : k = to.Tn := by omega
      subst hke
      have hgl : G.map Rw.l = rV f to q := by
        rw [hI.l, List.take_of_length_le]
        rw [rV_len (tabB_parts HBT.out).2.1, (tabB_parts HBT.out).2.1, HLT.out.1]
        exact Nat.le_refl _
      have i1 : ¬ ((to.Tn : Int) < (to.Tn : Int)) := by omega
      have hgn : ∀ v ∈ G, v.l.length = v.n := fun v hv => (hI.fr v hv).ok.len
      have hfit := fit_rV HBF.out HBT.out HNF.out HNT.out HQE.out HWO.out hgl hgn
      have e1 := idAt_of HQE.out
      generalize hwho : idAt f.es q = who at *
      have hww := HFW.out who (List.mem_of_getElem? e1)
      obtain ⟨be, oe, hEA, hle, ge0⟩ := ids_cell (HTF.out wr hb).es e1
      have hvc : G.length ≤ Sc ∧ Sc ≤ 9223372036854775807 := by
        obtain ⟨A9, c9, hv9, hv1, hv2⟩ := own_cap hI.own
        injection hv9 with _ _ hv9
        subst hv9
        exact ⟨hv1, hv2⟩
      obtain ⟨hv1, hv2⟩ := hvc
      have csr := csw wr hb
      have hqi : (q : Int) < (f.En : Int) := by rw [← HLF.out.2.2]; have := HQE.out; omega
      obtain ⟨⟨c0, c1, c2⟩, _⟩ := blk_cells3 hI.kf
      have cpu := fun (W : World) (h : Below wr.heap.size wr W) => rpush_any to who hww SA G.length Sc G W (HTT.out W (hb.trans (h.mono hbz))) ⟨HNN.out.2.1, HN2.out.2⟩ HBT.out hfit (Reads.of_own (own_below hI.own h)) ⟨hv1, by unfold maxLen; exact hv2⟩ (fun v hv => ((hI.fr v hv).below h).ok)
      rw [hgl] at cpu
      have HS := Lib.hid (fun (W : World) (h : Below wr.heap.size wr W) => And.intro (blk_below hI.kt h) (And.intro (show W.cell? ⟨w.heap.size, 2, none⟩ = some (.slice (some ⟨be, oe, none⟩) f.En f.Ec) from by have h9 := (blk_cells3 (blk_below hI.kf h)).1.2.2; rw [hEA] at h9; exact h9) (And.intro (cell_below' h ge0 hle) (And.intro (show Blk _ _ _ #[_, _, _, _, _, _, _, _] from blk_below hI.km h) (And.intro (HFF.out.below (hb.trans (h.mono hbz))) (HFT.out.below (hb.trans (h.mono hbz))))))))
      have hkmlt := hI.km.lt
      generalize rV f to (q : Int) = RV at *
      generalize rpuP to who RV = pT at *
      unfold TabGotF at cpu
      unfold Tab.V at cpu
      clear hgl hgn hfit e1 hww hEA ge0 hI ccol csw
      go_upto_region 12 with (first
        | (go_at_call 38; ((with_reducible refine csr.mono ?_); rintro en w5 ⟨t1, rfl, hp1, hT1, hb5, hfr1⟩; (try unfold Tab.V)))
        | fail)
      obtain ⟨X, hX⟩ : ∃ X, X = w5.alloc (.cells #[.slice t1.TA t1.Tn t1.Tc, .slice t1.CA t1.Cn t1.Cc, .slice t1.EA t1.En t1.Ec] 25) := ⟨_, rfl⟩
      have h5X : Below w5.heap.size w5 X := by rw [hX]; exact (Below.refl _ _).alloc (Nat.le_refl _) _
      have kX : Blk X w5.heap.size 25 #[.slice t1.TA t1.Tn t1.Tc, .slice t1.CA t1.Cn t1.Cc, .slice t1.EA t1.En t1.Ec] := by rw [hX]; exact Blk.new w5 _ _
      rw [← hX]
      have hrX := hb5.trans (h5X.mono hb5.size)
      have hfs := fun (W : World) (h : Below X.heap.size X W) => And.intro (blk_cells3 (blk_below kX h)).1 (And.intro (blk_cells3 (HS.out W (hrX.trans (h.mono hrX.size))).1).1 (And.intro (HS.out W (hrX.trans (h.mono hrX.size))).2.1 (HS.out W (hrX.trans (h.mono hrX.size))).2.2.1))
      have HFS := Lib.hid hfs
      have hfr1' := (hfr1 b0 (Nat.le_trans HB00.out hbz) (HS.out wr (Below.refl _ _)).2.2.2.2.1).below h5X
      have HFR1 := Lib.hid hfr1'
      have HP1 := Lib.hid hp1
      have HRX := Lib.hid hrX
      have h0 := hfs X (Below.refl _ _)
      clear hX h5X kX hb5 hT1 hfr1 hfr1' hp1 hfs csr c0 c1 c2
      generalize w5.heap.size = b5 at *
      refine wp_region_stop 14 (fun b w' => match b with | true => True | false => (w'.cell? ⟨b5, 0, none⟩ = some (.slice t1.TA t1.Tn t1.Tc) ∧ w'.cell? ⟨b5, 1, none⟩ = some (.slice t1.CA t1.Cn t1.Cc) ∧ w'.cell? ⟨b5, 2, none⟩ = some (.slice t1.EA t1.En t1.Ec)) ∧ (w'.cell? ⟨w.heap.size + 1, 0, none⟩ = some (.slice to.TA to.Tn to.Tc) ∧ w'.cell? ⟨w.heap.size + 1, 1, none⟩ = some (.slice to.CA to.Cn to.Cc) ∧ w'.cell? ⟨w.heap.size + 1, 2, none⟩ = some (.slice to.EA to.En to.Ec)) ∧ w'.cell? ⟨w.heap.size, 2, none⟩ = some (.slice (some ⟨be, oe, none⟩) f.En f.Ec) ∧ w'.cell? ⟨be, oe + q, none⟩ = some (.int .u64 who)) (by kernel_rfl) h0 (fun hHeld => ?_)
      refine wpAnyS_take (i := 0) (oi := _) (v := ?_) rfl (by kernel_rfl) (by kernel_rfl) (by kernel_rfl) (by kernel_rfl) (by kernel_rfl) (fun _ _ _ h => h) (Or.inl ⟨by rfl, ?_⟩) hHeld ?_
      rotate_left
      · intro w hSw; obtain ⟨⟨s0, s1, s2⟩, ⟨s3, s4, s5⟩, s6, s7⟩ := hSw; go_simp; try with_reducible rfl
      simp only [Act.put, List.getElem_toArray, List.getElem_cons_succ, List.getElem_cons_zero, List.setIfInBounds_toArray, List.set_cons_zero, List.set_cons_succ]
      refine wpAnyS_take (i := 1) (oi := _) (v := ?_) rfl (by kernel_rfl) (by kernel_rfl) (by kernel_rfl) (by kernel_rfl) (by kernel_rfl) (fun _ _ _ h => h) (Or.inl ⟨by rfl, ?_⟩) hHeld ?_
      rotate_left
      · intro w hSw; obtain ⟨⟨s0, s1, s2⟩, ⟨s3, s4, s5⟩, s6, s7⟩ := hSw; go_simp; try with_reducible rfl
      simp only [Act.put, List.getElem_toArray, List.getElem_cons_succ, List.getElem_cons_zero, List.setIfInBounds_toArray, List.set_cons_zero, List.set_cons_succ]
      refine wpAnyS_take (i := 2) (oi := _) (v := ?_) rfl (by kernel_rfl) (by kernel_rfl) (by kernel_rfl) (by kernel_rfl) (by kernel_rfl) (fun _ _ _ h => h) (Or.inl ⟨by rfl, ?_⟩) hHeld ?_
      rotate_left
      · intro w hSw; obtain ⟨⟨s0, s1, s2⟩, ⟨s3, s4, s5⟩, s6, s7⟩ := hSw; go_simp; try with_reducible rfl
      simp only [Act.put, List.getElem_toArray, List.getElem_cons_succ, List.getElem_cons_zero, List.setIfInBounds_toArray, List.set_cons_zero, List.set_cons_succ]
      refine wpAnyS_take (i := 3) (oi := _) (v := ?_) rfl (by kernel_rfl) (by kernel_rfl) (by kernel_rfl) (by kernel_rfl) (by kernel_rfl) (fun _ _ _ h => h) (Or.inl ⟨by rfl, ?_⟩) hHeld ?_
      rotate_left
      · intro w hSw; obtain ⟨⟨s0, s1, s2⟩, ⟨s3, s4, s5⟩, s6, s7⟩ := hSw; go_simp; try with_reducible rfl
      simp only [Act.put, List.getElem_toArray, List.getElem_cons_succ, List.getElem_cons_zero, List.setIfInBounds_toArray, List.set_cons_zero, List.set_cons_succ]
      refine wpAnyS_take (i := 4) (oi := _) (v := ?_) rfl (by kernel_rfl) (by kernel_rfl) (by kernel_rfl) (by kernel_rfl) (by kernel_rfl) (fun _ _ _ h => h) (Or.inl ⟨by rfl, ?_⟩) hHeld ?_
      rotate_left
      · intro w hSw; obtain ⟨⟨s0, s1, s2⟩, ⟨s3, s4, s5⟩, s6, s7⟩ := hSw; go_simp; try with_reducible rfl
      simp only [Act.put, List.getElem_toArray, List.getElem_cons_succ, List.getElem_cons_zero, List.setIfInBounds_toArray, List.set_cons_zero, List.set_cons_succ]
      refine wpAnyS_take (i := 5) (oi := _) (v := ?_) rfl (by kernel_rfl) (by kernel_rfl) (by kernel_rfl) (by kernel_rfl) (by kernel_rfl) (fun _ _ _ h => h) (Or.inl ⟨by rfl, ?_⟩) hHeld ?_
      rotate_left
      · intro w hSw; obtain ⟨⟨s0, s1, s2⟩, ⟨s3, s4, s5⟩, s6, s7⟩ := hSw; go_simp; try with_reducible rfl
      simp only [Act.put, List.getElem_toArray, List.getElem_cons_succ, List.getElem_cons_zero, List.setIfInBounds_toArray, List.set_cons_zero, List.set_cons_succ]
      refine wpAnyS_take (i := 6) (oi := _) (v := ?_) rfl (by kernel_rfl) (by kernel_rfl) (by kernel_rfl) (by kernel_rfl) (by kernel_rfl) (fun _ _ _ h => h) (Or.inl ⟨by rfl, ?_⟩) hHeld ?_
      rotate_left
      · intro w hSw; obtain ⟨⟨s0, s1, s2⟩, ⟨s3, s4, s5⟩, s6, s7⟩ := hSw; go_simp; try with_reducible rfl
      simp only [Act.put, List.getElem_toArray, List.getElem_cons_succ, List.getElem_cons_zero, List.setIfInBounds_toArray, List.set_cons_zero, List.set_cons_succ]
      refine wpAnyS_take (i := 7) (oi := _) (v := ?_) rfl (by kernel_rfl) (by kernel_rfl) (by kernel_rfl) (by kernel_rfl) (by kernel_rfl) (fun _ _ _ h => h) (Or.inl ⟨by rfl, ?_⟩) hHeld ?_
      rotate_left
      · intro w hSw; obtain ⟨⟨s0, s1, s2⟩, ⟨s3, s4, s5⟩, s6, s7⟩ := hSw; go_simp; try with_reducible rfl
      simp only [Act.put, List.getElem_toArray, List.getElem_cons_succ, List.getElem_cons_zero, List.setIfInBounds_toArray, List.set_cons_zero, List.set_cons_succ]
      refine wpAnyS_take (i := 9) (oi := _) (v := ?_) rfl (by kernel_rfl) (by kernel_rfl) (by kernel_rfl) (by kernel_rfl) (by kernel_rfl) (fun _ _ _ h => h) (Or.inl ⟨by rfl, ?_⟩) hHeld ?_
      rotate_left
      · intro w hSw; obtain ⟨⟨s0, s1, s2⟩, ⟨s3, s4, s5⟩, s6, s7⟩ := hSw; go_simp; try with_reducible rfl
      simp only [Act.put, List.getElem_toArray, List.getElem_cons_succ, List.getElem_cons_zero, List.setIfInBounds_toArray, List.set_cons_zero, List.set_cons_succ]
      refine wpAnyS_take (i := 10) (oi := _) (v := ?_) rfl (by kernel_rfl) (by kernel_rfl) (by kernel_rfl) (by kernel_rfl) (by kernel_rfl) (fun _ _ _ h => h) (Or.inl ⟨by rfl, ?_⟩) hHeld ?_
      rotate_left
      · intro w hSw; obtain ⟨⟨s0, s1, s2⟩, ⟨s3, s4, s5⟩, s6, s7⟩ := hSw; go_simp; try with_reducible rfl
      simp only [Act.put, List.getElem_toArray, List.getElem_cons_succ, List.getElem_cons_zero, List.setIfInBounds_toArray, List.set_cons_zero, List.set_cons_succ]
      refine wpAnyS_take (i := 11) (oi := _) (v := ?_) rfl (by kernel_rfl) (by kernel_rfl) (by kernel_rfl) (by kernel_rfl) (by kernel_rfl) (fun _ _ _ h => h) (Or.inl ⟨by rfl, ?_⟩) hHeld ?_
      rotate_left
      · intro w hSw; obtain ⟨⟨s0, s1, s2⟩, ⟨s3, s4, s5⟩, s6, s7⟩ := hSw; go_simp; try with_reducible rfl
      simp only [Act.put, List.getElem_toArray, List.getElem_cons_succ, List.getElem_cons_zero, List.setIfInBounds_toArray, List.set_cons_zero, List.set_cons_succ]
      refine wpAnyS_take (i := 12) (oi := _) (v := ?_) rfl (by kernel_rfl) (by kernel_rfl) (by kernel_rfl) (by kernel_rfl) (by kernel_rfl) (fun _ _ _ h => h) (Or.inl ⟨by rfl, ?_⟩) hHeld ?_
      rotate_left
      · intro w hSw; obtain ⟨⟨s0, s1, s2⟩, ⟨s3, s4, s5⟩, s6, s7⟩ := hSw; go_simp; try with_reducible rfl
      simp only [Act.put, List.getElem_toArray, List.getElem_cons_succ, List.getElem_cons_zero, List.setIfInBounds_toArray, List.set_cons_zero, List.set_cons_succ]
      refine wpAnyS_ready (rs := [8]) (by kernel_rfl) (by simp) (AllReadyS.cons false (by kernel_rfl) (o := _) rfl (fun K hK => ?_) AllReadyS.nil)
      go_simp
      with_reducible refine (cpu _ HRX.out.drew).mono ?_
      rintro en w8 ⟨t2, rfl, hp2, hT2, hb8, hfr2⟩
      have hb08 : Below X.heap.size X w8 := (Below.refl _ _).drew.trans hb8
      try unfold Tab.V
      have hr8 := HRX.out.trans (hb08.mono HRX.out.size)
      obtain ⟨_, _, _, km8, _, _⟩ := HS.out w8 hr8
      have hxd : Below wr.heap.size wr X.drew := HRX.out.drew
      have hfr2' := hfr2 b0 (by have h1 := HB00.out; have h2 := hxd.size; omega) (HS.out X.drew hxd).2.2.2.2.2
      obtain ⟨⟨q0, q1, q2, q3, q4, q5, q6, q7⟩, ⟨qf0, qf1, qf2, qf3, qf4, qf5, qf6, qf7⟩⟩ := blk_cells8 km8
      have HP2 := Lib.hid hp2
      refine hK.out _ _ (HFS.out _ hb08) (fun hHeld => ?_)
      clear hK K
      try simp only [Act.put, List.getElem_toArray, List.getElem_cons_succ, List.getElem_cons_zero, List.setIfInBounds_toArray, List.set_cons_zero, List.set_cons_succ]
      refine wpAnyS_take (i := 13) (oi := _) (v := ?_) rfl (by kernel_rfl) (by kernel_rfl) (by kernel_rfl) (by kernel_rfl) (by kernel_rfl) (fun _ _ _ h => h) (Or.inl ⟨by rfl, ?_⟩) hHeld ?_
      rotate_left
      · intro w hSw; obtain ⟨⟨s0, s1, s2⟩, ⟨s3, s4, s5⟩, s6, s7⟩ := hSw; go_simp; try with_reducible rfl
      simp only [Act.put, List.getElem_toArray, List.getElem_cons_succ, List.getElem_cons_zero, List.setIfInBounds_toArray, List.set_cons_zero, List.set_cons_succ]
      refine wpAnyS_ready (rs := [14]) (by kernel_rfl) (by simp) (AllReadyS.cons true (by kernel_rfl) (o := _) rfl (fun K hK => ?_) AllReadyS.nil)
      go_simp
      obtain ⟨x9, hx9⟩ : ∃ x9, x9 = set8 w8 (w.heap.size + 2) (.slice t1.TA t1.Tn t1.Tc) (.slice t1.CA t1.Cn t1.Cc) (.slice t1.EA t1.En t1.Ec) (.slice t2.TA t2.Tn t2.Tc) (.slice t2.CA t2.Cn t2.Cc) (.slice t2.EA t2.En t2.Ec) (.int .i64 (to.En : Int)) (.int .u64 mv) := ⟨_, rfl⟩
      obtain ⟨n1, n2, n3, n4, n5⟩ := set8_all km8 (by decide) (.slice t1.TA t1.Tn t1.Tc) (.slice t1.CA t1.Cn t1.Cc) (.slice t1.EA t1.En t1.Ec) (.slice t2.TA t2.Tn t2.Tc) (.slice t2.CA t2.Cn t2.Cc) (.slice t2.EA t2.En t2.Ec) (.int .i64 (to.En : Int)) (.int .u64 mv)
      rw [← hx9] at n1 n3
      have hr9 : Below w.heap.size w x9 := by rw [hx9]; exact (hb.trans (hr8.mono hbz)).trans (n4 _ (by omega))
      have HR1 := Lib.hid ((HFR1.out.below hb08).keep n3)
      have HR2 := Lib.hid (hfr2'.keep n3)
      have HRB := Lib.hid hr9
      obtain ⟨⟨m0, m1, m2, m3, m4, m5, m6, m7⟩, _⟩ := blk_cells8 n1
      change K _ (set8 w8 (w.heap.size + 2) (.slice t1.TA t1.Tn t1.Tc) (.slice t1.CA t1.Cn t1.Cc) (.slice t1.EA t1.En t1.Ec) (.slice t2.TA t2.Tn t2.Tc) (.slice t2.CA t2.Cn t2.Cc) (.slice t2.EA t2.En t2.Ec) (.int .i64 (to.En : Int)) (.int .u64 mv))
      rw [← hx9]
      clear hx9 n1 n2 n3 n4 n5 hr9 q0 q1 q2 q3 q4 q5 q6 q7 qf0 qf1 qf2 qf3 qf4 qf5 qf6 qf7
      refine hK.out _ _ trivial (fun hHeld => ?_)
      clear hK K
      try simp only [Act.put, List.getElem_toArray, List.getElem_cons_succ, List.getElem_cons_zero, List.setIfInBounds_toArray, List.set_cons_zero, List.set_cons_succ]
      refine wpAnyS_done (by kernel_rfl) ?_ _
      clear hHeld h0
      go_wp2_with fail
      refine bodyPost_ret (v := .agg #[.slice t1.TA t1.Tn t1.Tc, .slice t1.CA t1.Cn t1.Cc, .slice t1.EA t1.En t1.Ec, .slice t2.TA t2.Tn t2.Tc, .slice t2.CA t2.Cn t2.Cc, .slice t2.EA t2.En t2.Ec, .int .i64 (to.En : Int), .int .u64 mv]) (by simp [results, Try.results52, go_sem, m0, m1, m2, m3, m4, m5, m6, m7]) rfl ?_
      exact ⟨t1, t2, rfl, HP1.out, HP2.out, HR1.out, HR2.out, HRB.out⟩
end Go.Proofs.Ytbcbknajhdaneaa
