/- What is proved: shift's Along: rows moved one behind the other. -/
import Derived.Test.YtbcbknajhdaneaaVSb7
import Derived.Test.YtbcbknajhdaneaaVStop
namespace Go.Proofs.Ytbcbknajhdaneaa
open Go.RowKit Go.Maps
set_option linter.unusedVariables false
set_option linter.unusedSimpArgs false
theorem four_blk (w : World) (t1 t2 t3 t4 : TypeId) (a1 a2 a3 a4 : Array Value) : ∃ W0, W0 = (((w.alloc (.cells a1 t1)).alloc (.cells a2 t2)).alloc (.cells a3 t3)).alloc (.cells a4 t4) ∧ Below w.heap.size w W0 ∧ W0.heap.size = w.heap.size + 4 ∧
    Blk W0 w.heap.size t1 a1 ∧ Blk W0 (w.heap.size + 1) t2 a2 ∧ Blk W0 (w.heap.size + 2) t3 a3 ∧ Blk W0 (w.heap.size + 3) t4 a4 := by
  refine ⟨_, rfl, ((((Below.refl w.heap.size w).alloc (Nat.le_refl _) _).alloc (by simp) _).alloc (by simp; omega) _).alloc (by simp; omega) _, by simp, ?_, ?_, ?_, ?_⟩
  · exact (((Blk.new w _ _).alloc _).alloc _).alloc _
  · have h := Blk.new (w.alloc (.cells a1 t1)) t2 a2
    rw [World.size_alloc] at h
    exact (h.alloc _).alloc _
  · have h := Blk.new ((w.alloc (.cells a1 t1)).alloc (.cells a2 t2)) t3 a3
    rw [World.size_alloc, World.size_alloc] at h
    exact h.alloc _
  · have h := Blk.new (((w.alloc (.cells a1 t1)).alloc (.cells a2 t2)).alloc (.cells a3 t3)) t4 a4
    rw [World.size_alloc, World.size_alloc, World.size_alloc] at h
    exact h
theorem alR_no {s : PT × PT × Int} {w w' : World} (h : s.2.2 ≠ 0) (hb : Below w.heap.size w w') : AlR s w (.returned (.tuple #[.agg #[.slice none 0 0, .slice none 0 0, .slice none 0 0], .agg #[.slice none 0 0, .slice none 0 0, .slice none 0 0], .int .i64 s.2.2])) w' :=
  ⟨niT, niT, rfl, by rw [if_neg h]; rfl, by rw [if_neg h]; rfl, niT_fresh _ _, niT_fresh _ _, hb⟩
section
variable {W : World} {g : Nat} {a' b' c' : Value} (hk : Blk W g 25 #[a', b', c'])
include hk
theorem set3_blk (a b c : Value) : Blk (set3 W g a b c) g 25 #[a, b, c] := by simpa [set3] using ((hk.set_ 0 a).set_ 1 b).set_ 2 c
theorem set3_keep (a b c : Value) : KeepT W (set3 W g a b c) := ((KeepT.set hk (by decide) a).trans (KeepT.set (hk.set_ 0 a) (by decide) b)).trans (KeepT.set ((hk.set_ 0 a).set_ 1 b) (by decide) c)
omit hk in
theorem set3_far {g2 : Nat} {t : TypeId} {cs : Array Value} (h : Blk W g2 t cs) (hne : g2 ≠ g) (a b c : Value) : Blk (set3 W g a b c) g2 t cs := ((h.far (p := ⟨g, 0, none⟩) hne a).far (p := ⟨g, 1, none⟩) hne b).far (p := ⟨g, 2, none⟩) hne c
omit hk in
theorem set3_below {B : Nat} (hB : B ≤ g) (a b c : Value) : Below B W (set3 W g a b c) := below_set3 (Below.refl _ _) hB
end
set_option maxRecDepth 100000 in
set_option maxHeartbeats 16000000 in
theorem along_any (f t : Tab) (LA : Option Addr) (ln lc : Nat) (l : List Int) (w : World) (hf : TabOk w w.heap.size f) (ht : TabOk w w.heap.size t) (pf : PSm f.p) (pt : PSm t.p) (lf : f.es.length ≤ 8000) (lt : t.es.length ≤ 8000)
    (hR : Reads w w.heap.size 1 LA ln (ins l)) (hln : ln ≤ 8000) : Calls Try.prog 55 #[f.V, t.V, .slice LA ln lc] w (AlR (alG f.p t.p (shE f t) l) w) := by
  obtain ⟨W0, hW0, hB, hsz, k0, k1, k2, k3⟩ := four_blk w 25 25 25 25 #[.slice f.TA f.Tn f.Tc, .slice f.CA f.Cn f.Cc, .slice f.EA f.En f.Ec] #[.slice t.TA t.Tn t.Tc, .slice t.CA t.Cn t.Cc, .slice t.EA t.En t.Ec]
    #[.slice none 0 0, .slice none 0 0, .slice none 0 0] #[.slice none 0 0, .slice none 0 0, .slice none 0 0]
  obtain ⟨sf, nf, _⟩ := psm_sm hf pf
  obtain ⟨st, nt, _⟩ := psm_sm ht pt
  have hTf := fun (W : World) (h : Below W0.heap.size W0 W) => (hf.keep (hB.trans (h.mono hB.size))).more (hB.trans (h.mono hB.size)).size
  have hTt := fun (W : World) (h : Below W0.heap.size W0 W) => (ht.keep (hB.trans (h.mono hB.size))).more (hB.trans (h.mono hB.size)).size
  have cs := fun (W : World) (h : Below W0.heap.size W0 W) => shcheck_any f t W (hTf W h) (hTt W h) sf st
  have co1 := fun (W : World) (h : Below W0.heap.size W0 W) => shown_any f W (hTf W h) nf
  have co2 := fun (W : World) (h : Below W0.heap.size W0 W) => shown_any t W (hTt W h) nt
  obtain ⟨⟨c0, c1, c2⟩, _⟩ := blk_cells3 k0
  obtain ⟨⟨d0, d1, d2⟩, _⟩ := blk_cells3 k1
  have hll : l.length = ln := by have := hR.1; rw [ins_len] at this; omega
  have HW := Lib.hid hW0
  have HLL := Lib.hid hll
  have HNL := Lib.hid (And.intro hf.nl ht.nl)
  have HK := Lib.hid (fun (W : World) (h : Below W0.heap.size W0 W) => And.intro (blk_below k0 h) (And.intro (blk_below k1 h) (And.intro (blk_below k2 h) (And.intro (blk_below k3 h) (hB.trans (h.mono hB.size))))))
  obtain ⟨e0, he0⟩ : ∃ e0, e0 = shE f t := ⟨_, rfl⟩
  have hbd : e0 = 0 → Bd 8000 f ∧ Bd 8000 t := fun h => by
    rw [he0] at h
    unfold shE at h
    split at h
    · rename_i hb
      rw [Bool.and_eq_true] at hb
      have p1 := pf.2.1
      have p2 := pt.2.1
      unfold Tab.p at p1 p2
      simp only [List.length_map] at p1 p2
      exact ⟨⟨hb.1, pf.1, p1, lf⟩, ⟨hb.2, pt.1, p2, lt⟩⟩
    · cases h
  rw [← he0]
  simp only [← he0] at cs
  have HBD := Lib.hid hbd
  have HSZ := Lib.hid hsz
  unfold Tab.V at cs co1 co2 ⊢
  unfold OwnT at co1 co2
  clear hW0 k0 k1 k2 k3 hf ht hsz sf st nf nt hTf hTt hbd pf pt lf lt he0 hll
  go_enter Try.func55, Try.ntmps55
  go_upto_region 1 with fail
  rw [← HW.out]
  go_step3
  go_wp2_with (first
    | (go_at_call 98; ((with_reducible refine (cs _ (Below.refl _ _)).mono ?_); rintro en w2 ⟨rfl, hb2⟩))
    | fail)
  have hb02 : Below W0.heap.size W0 w2 := hb2
  obtain ⟨k0, k1, k2, k3, hbw⟩ := HK.out _ hb02
  obtain ⟨⟨c0, c1, c2⟩, _⟩ := blk_cells3 k0
  obtain ⟨⟨d0, d1, d2⟩, _⟩ := blk_cells3 k1
  clear k0 k1 k2 k3
  refine wp_region_stop 5 (fun b w' => match b with | true => True | false => w'.cell? ⟨w.heap.size + 1, 0, none⟩ = some (.slice t.TA t.Tn t.Tc) ∧ w'.cell? ⟨w.heap.size + 1, 1, none⟩ = some (.slice t.CA t.Cn t.Cc) ∧ w'.cell? ⟨w.heap.size + 1, 2, none⟩ = some (.slice t.EA t.En t.Ec)) (by kernel_rfl) ⟨d0, d1, d2⟩ (fun hHeld => ?_)
  refine wpAnyS_take (i := 2) (oi := _) (v := ?_) rfl (by kernel_rfl) (by kernel_rfl) (by kernel_rfl) (by kernel_rfl) (by kernel_rfl) (fun _ _ _ h => h) (Or.inl ⟨by rfl, ?_⟩) hHeld ?_
  rotate_left
  · intro w hSw; obtain ⟨s0, s1, s2⟩ := hSw; go_simp; try with_reducible rfl
  simp only [Act.put, List.getElem_toArray, List.getElem_cons_succ, List.getElem_cons_zero, List.setIfInBounds_toArray, List.set_cons_zero, List.set_cons_succ]
  refine wpAnyS_ready (rs := [0]) (by kernel_rfl) (by simp) (AllReadyS.cons false (by kernel_rfl) (o := _) rfl (fun K hK => ?_) AllReadyS.nil)
  go_simp
  refine hK.out _ _ (blk_cells3 (HK.out _ hb02.drew).2.1).1 (fun hHeld => ?_)
  clear hK K
  try simp only [Act.put, List.getElem_toArray, List.getElem_cons_succ, List.getElem_cons_zero, List.setIfInBounds_toArray, List.set_cons_zero, List.set_cons_succ]
  refine wpAnyS_ready (rs := [1]) (by kernel_rfl) (by simp) (AllReadyS.cons false (by kernel_rfl) (o := _) rfl (fun K hK => ?_) AllReadyS.nil)
  go_simp
  refine (co1 _ hb02.drew).mono ?_
  rintro en x1 ⟨tf, rfl, hpf, hff, hb1⟩
  have hb01 : Below W0.heap.size W0 x1 := hb02.drew.trans (hb1.mono hb02.size)
  try unfold Tab.V
  refine hK.out _ _ (blk_cells3 (HK.out _ hb01).2.1).1 (fun hHeld => ?_)
  clear hK K
  try simp only [Act.put, List.getElem_toArray, List.getElem_cons_succ, List.getElem_cons_zero, List.setIfInBounds_toArray, List.set_cons_zero, List.set_cons_succ]
  refine wpAnyS_ready (rs := [3]) (by kernel_rfl) (by simp) (AllReadyS.cons false (by kernel_rfl) (o := _) rfl (fun K hK => ?_) AllReadyS.nil)
  go_simp
  refine (co2 _ hb01).mono ?_
  rintro en x2 ⟨tt, rfl, hpt, hft, hb2'⟩
  have hb03 : Below W0.heap.size W0 x2 := hb01.trans (hb2'.mono hb01.size)
  obtain ⟨k0, k1, k2, k3, hbx⟩ := HK.out _ hb03
  have hff2 := hff.below hb2'
  have hz1 := hb01.size
  have hz2 := hb02.size
  have hz3 := HSZ.out
  have hdz : w2.drew.heap.size = w2.heap.size := rfl
  obtain ⟨⟨c0, c1, c2⟩, zf⟩ := blk_cells3 k0
  have zf0 := zf 0
  have zf1 := zf 1
  have zf2 := zf 2
  clear zf
  try unfold Tab.V
  refine hK.out _ _ (blk_cells3 (HK.out _ hb03).2.1).1 (fun hHeld => ?_)
  clear hK K
  try simp only [Act.put, List.getElem_toArray, List.getElem_cons_succ, List.getElem_cons_zero, List.setIfInBounds_toArray, List.set_cons_zero, List.set_cons_succ]
  refine wpAnyS_ready (rs := [4]) (by kernel_rfl) (by simp) (AllReadyS.cons false (by kernel_rfl) (o := _) rfl (fun K hK => ?_) AllReadyS.nil)
  go_simp
  obtain ⟨x3, hx3⟩ : ∃ x3, x3 = set3 x2 w.heap.size (.slice tf.TA tf.Tn tf.Tc) (.slice tf.CA tf.Cn tf.Cc) (.slice tf.EA tf.En tf.Ec) := ⟨_, rfl⟩
  have j0 := set3_blk k0 (.slice tf.TA tf.Tn tf.Tc) (.slice tf.CA tf.Cn tf.Cc) (.slice tf.EA tf.En tf.Ec)
  have j1 := set3_far (g := w.heap.size) k1 (by omega) (.slice tf.TA tf.Tn tf.Tc) (.slice tf.CA tf.Cn tf.Cc) (.slice tf.EA tf.En tf.Ec)
  have j2 := set3_far (g := w.heap.size) k2 (by omega) (.slice tf.TA tf.Tn tf.Tc) (.slice tf.CA tf.Cn tf.Cc) (.slice tf.EA tf.En tf.Ec)
  have j3 := set3_far (g := w.heap.size) k3 (by omega) (.slice tf.TA tf.Tn tf.Tc) (.slice tf.CA tf.Cn tf.Cc) (.slice tf.EA tf.En tf.Ec)
  have jk := set3_keep k0 (.slice tf.TA tf.Tn tf.Tc) (.slice tf.CA tf.Cn tf.Cc) (.slice tf.EA tf.En tf.Ec)
  have jb := hbx.trans (set3_below (W := x2) (Nat.le_refl w.heap.size) (.slice tf.TA tf.Tn tf.Tc) (.slice tf.CA tf.Cn tf.Cc) (.slice tf.EA tf.En tf.Ec))
  rw [← hx3] at j0 j1 j2 j3 jk jb
  unfold set3 at hx3
  rw [← hx3]
  obtain ⟨⟨d0, d1, d2⟩, yf⟩ := blk_cells3 j1
  have yf0 := yf 0
  have yf1 := yf 1
  have yf2 := yf 2
  clear hx3 yf c0 c1 c2 zf0 zf1 zf2
  refine hK.out _ _ (blk_cells3 j1).1 (fun hHeld => ?_)
  clear hK K
  try simp only [Act.put, List.getElem_toArray, List.getElem_cons_succ, List.getElem_cons_zero, List.setIfInBounds_toArray, List.set_cons_zero, List.set_cons_succ]
  refine wpAnyS_ready (rs := [5]) (by kernel_rfl) (by simp) (AllReadyS.cons true (by kernel_rfl) (o := _) rfl (fun K hK => ?_) AllReadyS.nil)
  go_simp
  obtain ⟨x4, hx4⟩ : ∃ x4, x4 = set3 x3 (w.heap.size + 1) (.slice tt.TA tt.Tn tt.Tc) (.slice tt.CA tt.Cn tt.Cc) (.slice tt.EA tt.En tt.Ec) := ⟨_, rfl⟩
  have hI : AlI f.p t.p e0 l 0 e0 w.heap.size tf tt w x4 := by
    have i0 := set3_far (g := w.heap.size + 1) j0 (by omega) (.slice tt.TA tt.Tn tt.Tc) (.slice tt.CA tt.Cn tt.Cc) (.slice tt.EA tt.En tt.Ec)
    have i1 := set3_blk j1 (.slice tt.TA tt.Tn tt.Tc) (.slice tt.CA tt.Cn tt.Cc) (.slice tt.EA tt.En tt.Ec)
    have i2 := set3_far (g := w.heap.size + 1) j2 (by omega) (.slice tt.TA tt.Tn tt.Tc) (.slice tt.CA tt.Cn tt.Cc) (.slice tt.EA tt.En tt.Ec)
    have i3 := set3_far (g := w.heap.size + 1) j3 (by omega) (.slice tt.TA tt.Tn tt.Tc) (.slice tt.CA tt.Cn tt.Cc) (.slice tt.EA tt.En tt.Ec)
    have ik := jk.trans (set3_keep j1 (.slice tt.TA tt.Tn tt.Tc) (.slice tt.CA tt.Cn tt.Cc) (.slice tt.EA tt.En tt.Ec))
    have ib := jb.trans (set3_below (W := x3) (B := w.heap.size) (g := w.heap.size + 1) (by omega) (.slice tt.TA tt.Tn tt.Tc) (.slice tt.CA tt.Cn tt.Cc) (.slice tt.EA tt.En tt.Ec))
    rw [← hx4] at i0 i1 i2 i3 ik ib
    refine ⟨i0, i1, i2, i3, (hff2.base (by omega)).keep ik, (hft.base (by omega)).keep ik, fun h => ?_, ?_, ib⟩
    · obtain ⟨b1, b2⟩ := HBD.out h
      exact ⟨⟨by rw [tabB_p hpf hff2.ok.nl HNL.out.1]; exact b1.b, by rw [p_ty hpf]; exact b1.ty, by rw [p_len hpf]; exact b1.F, by rw [p_es hpf]; exact b1.es⟩,
        ⟨by rw [tabB_p hpt hft.ok.nl HNL.out.2]; exact b2.b, by rw [p_ty hpt]; exact b2.ty, by rw [p_len hpt]; exact b2.F, by rw [p_es hpt]; exact b2.es⟩⟩
    · rw [List.take_zero, hpf, hpt]; rfl
  unfold set3 at hx4
  rw [← hx4]
  have HI := Lib.hid hI
  clear hx4 hI j0 j1 j2 j3 jk jb d0 d1 d2 yf0 yf1 yf2
  refine hK.out _ _ trivial (fun hHeld => ?_)
  clear hK K
  try simp only [Act.put, List.getElem_toArray, List.getElem_cons_succ, List.getElem_cons_zero, List.setIfInBounds_toArray, List.set_cons_zero, List.set_cons_succ]
  refine wpAnyS_done (by kernel_rfl) ?_ _
  clear hHeld hff hft hff2 hpf hpt hb1 hb2 hb2' hb01 hb02 hb03 hbx hbw k0 k1 k2 k3 hz1 hz2 hz3 hdz cs co1 co2
  go_wp2_with fail
  go_step3
  go_wp2_with fail
  go_loopw [9, 22] (fun s i wr => ∃ (k : Nat) (er : Int) (tf tt : Tab), k ≤ ln ∧ i = .int .i64 k ∧ s = .int .i64 er ∧ AlI f.p t.p e0 l k er w.heap.size tf tt w wr)
    (fun _ i _ => ln - (intOf i).toNat)
  case atStart => exact ⟨0, e0, _, _, Nat.zero_le _, rfl, rfl, HI.out⟩
  case round =>
    obtain ⟨k, er, tf, tt, hk, rfl, rfl, hI⟩ := hrel
    have HI2 := Lib.hid hI
    by_cases hlt : k < ln
    · have e1 := List.getElem?_eq_getElem (l := l) (i := k) (by rw [HLL.out]; exact hlt)
      generalize l[k]'(by rw [HLL.out]; exact hlt) = row at e1
      obtain ⟨bl, ol, rfl, hbl, g⟩ := ins_cell hR e1
      have g0 := cell_below' hI.b g hbl
      have i1 : (k : Int) < (ln : Int) := by omega
      by_cases her : er = 0
      · subst her
        have HE1 := Lib.hid e1
        clear e1 g hI
        go_upto_region 8 with fail
        obtain ⟨x1, hx1⟩ : ∃ x1, x1 = wr.alloc (.cells zMov 82) := ⟨_, rfl⟩
        have hb1 : Below wr.heap.size wr x1 := by rw [hx1]; exact (Below.refl _ _).alloc (Nat.le_refl _) _
        have km : Blk x1 wr.heap.size 82 zMov := by rw [hx1]; exact Blk.new wr _ _
        unfold zMov at hx1
        rw [← hx1]
        have hI1 := HI2.out.below hb1 HI2.out.b.size
        obtain ⟨bd1, bd2⟩ := hI1.bd rfl
        obtain ⟨sf, nf, nf2⟩ := psm_sm hI1.ff.ok (bd1.psm (by omega) hI1.ff.ok.nl)
        obtain ⟨st, nt, nt2⟩ := psm_sm hI1.ft.ok (bd2.psm (by omega) hI1.ft.ok.nl)
        have cm := move_any tf tt row x1 hI1.ff.ok hI1.ft.ok sf st ⟨nf.1, nf.2.1, nf.2.2.1⟩ ⟨nt.1, nt.2.1, nt2⟩
        obtain ⟨er', her'⟩ : ∃ e, e = mvE tf tt row := ⟨_, rfl⟩
        obtain ⟨rr, hrr⟩ : ∃ e, e = mvR tf tt row := ⟨_, rfl⟩
        obtain ⟨mm, hmm⟩ : ∃ e, e = mvM tf tt row := ⟨_, rfl⟩
        unfold MovR at cm
        unfold Tab.V at cm
        simp only [← her', ← hrr, ← hmm] at cm
        have HER := Lib.hid her'
        have HKM := Lib.hid (fun (x2 : World) (hb2 : Below x1.heap.size x1 x2) => show Blk x2 wr.heap.size 82 #[.slice none 0 0, .slice none 0 0, .slice none 0 0, .slice none 0 0, .slice none 0 0, .slice none 0 0, .int .i64 0, .int .u64 0] from blk_below km hb2)
        obtain ⟨⟨c0, c1, c2⟩, _⟩ := blk_cells3 hI1.kf
        obtain ⟨⟨d0, d1, d2⟩, _⟩ := blk_cells3 hI1.kt
        have HI1 := Lib.hid hI1
        have HB1 := Lib.hid hb1
        clear hx1 hb1 km hI1 bd1 bd2 sf nf nf2 st nt nt2 her' hrr hmm
        go_upto_region 9 with (first
          | (go_at_call 50; ((with_reducible refine cm.mono ?_); rintro en x2 ⟨tf', tt', wm, rfl, hpf, hpt, hft', hwm, hkw, hff', hb2⟩; obtain ⟨⟨q0, q1, q2, q3, q4, q5, q6, q7⟩, ⟨qf0, qf1, qf2, qf3, qf4, qf5, qf6, qf7⟩⟩ := blk_cells8 (HKM.out _ hb2)))
          | fail)
        obtain ⟨x3, hx3⟩ : ∃ x3, x3 = set8 x2 wr.heap.size (.slice tf'.TA tf'.Tn tf'.Tc) (.slice tf'.CA tf'.Cn tf'.Cc) (.slice tf'.EA tf'.En tf'.Ec) (.slice tt'.TA tt'.Tn tt'.Tc) (.slice tt'.CA tt'.Cn tt'.Cc) (.slice tt'.EA tt'.En tt'.Ec) (.int .i64 rr) (.int .u64 mm) := ⟨_, rfl⟩
        obtain ⟨n1, n2, n3, n4, n5⟩ := set8_all (HKM.out _ hb2) (by decide) (.slice tf'.TA tf'.Tn tf'.Tc) (.slice tf'.CA tf'.Cn tf'.Cc) (.slice tf'.EA tf'.En tf'.Ec) (.slice tt'.TA tt'.Tn tt'.Tc) (.slice tt'.CA tt'.Cn tt'.Cc) (.slice tt'.EA tt'.En tt'.Ec) (.int .i64 rr) (.int .u64 mm)
        have hI2 := HI1.out.below hb2 HI1.out.b.size
        have hh := HI2.out.b.size
        have l0 := HI2.out.k3.lt
        have kf3 := n5 _ _ _ (by omega) hI2.kf
        have kt3 := n5 _ _ _ (by omega) hI2.kt
        have k23 := n5 _ _ _ (by omega) hI2.k2
        have k33 := n5 _ _ _ (by omega) hI2.k3
        have b3 := hI2.b.trans (n4 w.heap.size hh)
        have kx3 := n3
        rw [← hx3] at n1 n3 kf3 kt3 k23 k33 b3
        unfold set8 at hx3
        rw [← hx3]
        clear q0 q1 q2 q3 q4 q5 q6 q7 qf0 qf1 qf2 qf3 qf4 qf5 qf6 qf7 c0 c1 c2 d0 d1 d2 n2 n4 n5 kx3 hx3
        have hkk := (KeepT.below hb2).trans n3
        have hz1 := HI1.out.b.size
        have hzb := HB1.out.size
        have hb2z := hb2.size
        have hwz := hwm.size
        have hff3 := (hff'.base (show w.heap.size ≤ wm.heap.size by omega)).keep n3
        have hft3 := (hft'.base (show w.heap.size ≤ x1.heap.size by omega)).keep (hkw.trans n3)
        have HPF := Lib.hid hpf
        have HPT := Lib.hid hpt
        have HSS := Lib.hid (show alG f.p t.p e0 (l.take (k + 1)) = alS (tf.p, tt.p, 0) row from by rw [alG_snoc _ _ _ HE1.out, HI2.out.st])
        by_cases he' : er' = 0
        · subst he'
          have hst : alG f.p t.p e0 (l.take (k + 1)) = (tf'.p, tt'.p, 0) := by
            rw [HSS.out]
            unfold alS
            rw [if_pos rfl]
            show (if mvE (ofP tf.p) (ofP tt.p) row = 0 then _ else _) = _
            rw [mvE_nx HI2.out.ff.ok.nl HI2.out.ft.ok.nl, ← HER.out, if_pos rfl, mvF_nx HI2.out.ff.ok.nl HI2.out.ft.ok.nl, mvT_nx HI2.out.ff.ok.nl HI2.out.ft.ok.nl, HPF.out, HPT.out]
          have hbd : Bd 8000 tf' ∧ Bd (8000 + (k + 1)) tt' := moved_bd HER.out.symm HI2.out.ff.ok.esw hpf hpt HI2.out.ff.ok.nl HI2.out.ft.ok.nl hff3.ok.nl hft3.ok.nl (HI2.out.bd rfl).1 (HI2.out.bd rfl).2
          obtain ⟨⟨q0, q1, q2, q3, q4, q5, q6, q7⟩, _⟩ := blk_cells8 n1
          obtain ⟨⟨c0, c1, c2⟩, cf⟩ := blk_cells3 kf3
          have cf0 := cf 0
          have cf1 := cf 1
          have cf2 := cf 2
          have HST := Lib.hid hst
          have HBD' := Lib.hid hbd
          have HFF3 := Lib.hid hff3
          have HFT3 := Lib.hid hft3
          have HN1 := Lib.hid n1
          have HKF := Lib.hid kf3
          have HKT := Lib.hid kt3
          have HK2 := Lib.hid k23
          have HK3 := Lib.hid k33
          have HB3 := Lib.hid b3
          clear hst hbd hff3 hft3 n1 kf3 kt3 k23 k33 b3 cf hpf hpt hff' hft' hkw hb2 hkk n3 hI2 cm hwm
          go_upto_region 10 with fail
          refine wp_region_stop 5 (fun b w' => match b with | true => True | false => (w'.cell? ⟨wr.heap.size, 0, none⟩ = some (.slice tf'.TA tf'.Tn tf'.Tc) ∧ w'.cell? ⟨wr.heap.size, 1, none⟩ = some (.slice tf'.CA tf'.Cn tf'.Cc) ∧ w'.cell? ⟨wr.heap.size, 2, none⟩ = some (.slice tf'.EA tf'.En tf'.Ec)) ∧ w'.cell? ⟨wr.heap.size, 3, none⟩ = some (.slice tt'.TA tt'.Tn tt'.Tc) ∧ w'.cell? ⟨wr.heap.size, 4, none⟩ = some (.slice tt'.CA tt'.Cn tt'.Cc) ∧ w'.cell? ⟨wr.heap.size, 5, none⟩ = some (.slice tt'.EA tt'.En tt'.Ec)) (by kernel_rfl) ⟨⟨q0, q1, q2⟩, q3, q4, q5⟩ (fun hHeld => ?_)
          refine wpAnyS_take (i := 0) (oi := _) (v := ?_) rfl (by kernel_rfl) (by kernel_rfl) (by kernel_rfl) (by kernel_rfl) (by kernel_rfl) (fun _ _ _ h => h) (Or.inl ⟨by rfl, ?_⟩) hHeld ?_
          rotate_left
          · intro w hSw; obtain ⟨⟨s0, s1, s2⟩, s3, s4, s5⟩ := hSw; go_simp; try with_reducible rfl
          simp only [Act.put, List.getElem_toArray, List.getElem_cons_succ, List.getElem_cons_zero, List.setIfInBounds_toArray, List.set_cons_zero, List.set_cons_succ]
          refine wpAnyS_take (i := 1) (oi := _) (v := ?_) rfl (by kernel_rfl) (by kernel_rfl) (by kernel_rfl) (by kernel_rfl) (by kernel_rfl) (fun _ _ _ h => h) (Or.inl ⟨by rfl, ?_⟩) hHeld ?_
          rotate_left
          · intro w hSw; obtain ⟨⟨s0, s1, s2⟩, s3, s4, s5⟩ := hSw; go_simp; try with_reducible rfl
          simp only [Act.put, List.getElem_toArray, List.getElem_cons_succ, List.getElem_cons_zero, List.setIfInBounds_toArray, List.set_cons_zero, List.set_cons_succ]
          refine wpAnyS_take (i := 2) (oi := _) (v := ?_) rfl (by kernel_rfl) (by kernel_rfl) (by kernel_rfl) (by kernel_rfl) (by kernel_rfl) (fun _ _ _ h => h) (Or.inl ⟨by rfl, ?_⟩) hHeld ?_
          rotate_left
          · intro w hSw; obtain ⟨⟨s0, s1, s2⟩, s3, s4, s5⟩ := hSw; go_simp; try with_reducible rfl
          simp only [Act.put, List.getElem_toArray, List.getElem_cons_succ, List.getElem_cons_zero, List.setIfInBounds_toArray, List.set_cons_zero, List.set_cons_succ]
          refine wpAnyS_take (i := 3) (oi := _) (v := ?_) rfl (by kernel_rfl) (by kernel_rfl) (by kernel_rfl) (by kernel_rfl) (by kernel_rfl) (fun _ _ _ h => h) (Or.inl ⟨by rfl, ?_⟩) hHeld ?_
          rotate_left
          · intro w hSw; obtain ⟨⟨s0, s1, s2⟩, s3, s4, s5⟩ := hSw; go_simp; try with_reducible rfl
          simp only [Act.put, List.getElem_toArray, List.getElem_cons_succ, List.getElem_cons_zero, List.setIfInBounds_toArray, List.set_cons_zero, List.set_cons_succ]
          refine wpAnyS_ready (rs := [4]) (by kernel_rfl) (by simp) (AllReadyS.cons false (by kernel_rfl) (o := _) rfl (fun K hK => ?_) AllReadyS.nil)
          go_simp
          obtain ⟨x4, hx4⟩ : ∃ x4, x4 = set3 x3.drew w.heap.size (.slice tf'.TA tf'.Tn tf'.Tc) (.slice tf'.CA tf'.Cn tf'.Cc) (.slice tf'.EA tf'.En tf'.Ec) := ⟨_, rfl⟩
          have j0 := set3_blk (show Blk x3.drew _ _ _ from HKF.out) (.slice tf'.TA tf'.Tn tf'.Tc) (.slice tf'.CA tf'.Cn tf'.Cc) (.slice tf'.EA tf'.En tf'.Ec)
          have j1 := set3_far (g := w.heap.size) (show Blk x3.drew _ _ _ from HKT.out) (by omega) (.slice tf'.TA tf'.Tn tf'.Tc) (.slice tf'.CA tf'.Cn tf'.Cc) (.slice tf'.EA tf'.En tf'.Ec)
          have j2 := set3_far (g := w.heap.size) (show Blk x3.drew _ _ _ from HK2.out) (by omega) (.slice tf'.TA tf'.Tn tf'.Tc) (.slice tf'.CA tf'.Cn tf'.Cc) (.slice tf'.EA tf'.En tf'.Ec)
          have j3 := set3_far (g := w.heap.size) (show Blk x3.drew _ _ _ from HK3.out) (by omega) (.slice tf'.TA tf'.Tn tf'.Tc) (.slice tf'.CA tf'.Cn tf'.Cc) (.slice tf'.EA tf'.En tf'.Ec)
          have jm := set3_far (g := w.heap.size) (show Blk x3.drew _ _ _ from HN1.out) (by omega) (.slice tf'.TA tf'.Tn tf'.Tc) (.slice tf'.CA tf'.Cn tf'.Cc) (.slice tf'.EA tf'.En tf'.Ec)
          have jk := (KeepT.below (Below.refl _ x3).drew).trans (set3_keep (show Blk x3.drew _ _ _ from HKF.out) (.slice tf'.TA tf'.Tn tf'.Tc) (.slice tf'.CA tf'.Cn tf'.Cc) (.slice tf'.EA tf'.En tf'.Ec))
          have jb := HB3.out.drew.trans (set3_below (W := x3.drew) (B := w.heap.size) (g := w.heap.size) (Nat.le_refl _) (.slice tf'.TA tf'.Tn tf'.Tc) (.slice tf'.CA tf'.Cn tf'.Cc) (.slice tf'.EA tf'.En tf'.Ec))
          rw [← hx4] at j0 j1 j2 j3 jm jk jb
          change K _ (set3 x3.drew w.heap.size (.slice tf'.TA tf'.Tn tf'.Tc) (.slice tf'.CA tf'.Cn tf'.Cc) (.slice tf'.EA tf'.En tf'.Ec))
          rw [← hx4]
          clear c0 c1 c2 cf0 cf1 cf2
          obtain ⟨⟨d0, d1, d2⟩, df⟩ := blk_cells3 j1
          have df0 := df 0
          have df1 := df 1
          have df2 := df 2
          obtain ⟨⟨q0, q1, q2, q3, q4, q5, q6, q7⟩, _⟩ := blk_cells8 jm
          clear hx4 df
          refine hK.out _ _ ⟨⟨q0, q1, q2⟩, q3, q4, q5⟩ (fun hHeld => ?_)
          clear hK K
          try simp only [Act.put, List.getElem_toArray, List.getElem_cons_succ, List.getElem_cons_zero, List.setIfInBounds_toArray, List.set_cons_zero, List.set_cons_succ]
          refine wpAnyS_ready (rs := [5]) (by kernel_rfl) (by simp) (AllReadyS.cons true (by kernel_rfl) (o := _) rfl (fun K hK => ?_) AllReadyS.nil)
          go_simp
          obtain ⟨x5, hx5⟩ : ∃ x5, x5 = set3 x4 (w.heap.size + 1) (.slice tt'.TA tt'.Tn tt'.Tc) (.slice tt'.CA tt'.Cn tt'.Cc) (.slice tt'.EA tt'.En tt'.Ec) := ⟨_, rfl⟩
          have hin : AlI f.p t.p e0 l (k + 1) 0 w.heap.size tf' tt' w x5 := by
            have i0 := set3_far (g := w.heap.size + 1) j0 (by omega) (.slice tt'.TA tt'.Tn tt'.Tc) (.slice tt'.CA tt'.Cn tt'.Cc) (.slice tt'.EA tt'.En tt'.Ec)
            have i1 := set3_blk j1 (.slice tt'.TA tt'.Tn tt'.Tc) (.slice tt'.CA tt'.Cn tt'.Cc) (.slice tt'.EA tt'.En tt'.Ec)
            have i2 := set3_far (g := w.heap.size + 1) j2 (by omega) (.slice tt'.TA tt'.Tn tt'.Tc) (.slice tt'.CA tt'.Cn tt'.Cc) (.slice tt'.EA tt'.En tt'.Ec)
            have i3 := set3_far (g := w.heap.size + 1) j3 (by omega) (.slice tt'.TA tt'.Tn tt'.Tc) (.slice tt'.CA tt'.Cn tt'.Cc) (.slice tt'.EA tt'.En tt'.Ec)
            have ik := jk.trans (set3_keep j1 (.slice tt'.TA tt'.Tn tt'.Tc) (.slice tt'.CA tt'.Cn tt'.Cc) (.slice tt'.EA tt'.En tt'.Ec))
            have ib := jb.trans (set3_below (W := x4) (B := w.heap.size) (g := w.heap.size + 1) (by omega) (.slice tt'.TA tt'.Tn tt'.Tc) (.slice tt'.CA tt'.Cn tt'.Cc) (.slice tt'.EA tt'.En tt'.Ec))
            rw [← hx5] at i0 i1 i2 i3 ik ib
            exact ⟨i0, i1, i2, i3, HFF3.out.keep ik, HFT3.out.keep ik, fun _ => HBD'.out, HST.out, ib⟩
          unfold set3 at hx5
          rw [← hx5]
          have HIN := Lib.hid hin
          clear hx5 hin d0 d1 d2 df0 df1 df2 j0 j1 j2 j3 jm jk jb
          refine hK.out _ _ trivial (fun hHeld => ?_)
          clear hK K
          try simp only [Act.put, List.getElem_toArray, List.getElem_cons_succ, List.getElem_cons_zero, List.setIfInBounds_toArray, List.set_cons_zero, List.set_cons_succ]
          refine wpAnyS_done (by kernel_rfl) ?_ _
          clear hHeld q0 q1 q2 q3 q4 q5 q6 q7
          go_wp2_with fail
          go_roundw
          case rel => exact ⟨k + 1, 0, tf', tt', by omega, by go_num, rfl, HIN.out⟩
          case measure => simp [intOf]; omega
        · have d1 : (er' == 0) = false := by simpa using he'
          have hst : alG f.p t.p e0 (l.take (k + 1)) = (tf.p, tt.p, er') := by
            rw [HSS.out]
            unfold alS
            rw [if_pos rfl]
            show (if mvE (ofP tf.p) (ofP tt.p) row = 0 then _ else _) = _
            rw [mvE_nx HI2.out.ff.ok.nl HI2.out.ft.ok.nl, ← HER.out, if_neg he']
          have hin : AlI f.p t.p e0 l (k + 1) er' w.heap.size tf tt w x3 := ⟨kf3, kt3, k23, k33, hI2.ff.keep n3, hI2.ft.keep n3, fun h => absurd h he', hst, b3⟩
          have HIN := Lib.hid hin
          clear hst hin kf3 kt3 k23 k33 b3 hff3 hft3 n1 n3 hI2 cm hpf hpt hff' hft' hkw hb2 hkk hwm he'
          go_wp2_with fail
          go_roundw
          case rel => exact ⟨k + 1, er', tf, tt, by omega, by go_num, rfl, HIN.out⟩
          case measure => simp [intOf]; omega
      · have d1 : (er != 0) = true := by simpa using her
        have hst : alG f.p t.p e0 l = alG f.p t.p e0 (l.take k) := alG_take (by rw [hI.st]; exact her)
        rw [hI.st] at hst
        have HST := Lib.hid hst
        clear e1 g hst hI
        obtain ⟨⟨r0, r1, r2⟩, rf⟩ := blk_cells3 HI2.out.k2
        have rf0 := rf 0
        have rf1 := rf 1
        have rf2 := rf 2
        obtain ⟨⟨s0, s1, s2⟩, sf⟩ := blk_cells3 HI2.out.k3
        have sf0 := sf 0
        have sf1 := sf 1
        have sf2 := sf 2
        clear rf sf
        go_wp2_with fail
        try rw [Exit.noGoto_ret]
        have y2 := set3_far (g := w.heap.size + 3) (set3_blk HI2.out.k2 (.slice none 0 0) (.slice none 0 0) (.slice none 0 0)) (by omega) (.slice none 0 0) (.slice none 0 0) (.slice none 0 0)
        have y3 := set3_blk (set3_far (g := w.heap.size + 2) HI2.out.k3 (by omega) (.slice none 0 0) (.slice none 0 0) (.slice none 0 0)) (.slice none 0 0) (.slice none 0 0) (.slice none 0 0)
        obtain ⟨⟨m0, m1, m2⟩, _⟩ := blk_cells3 y2
        obtain ⟨⟨m3, m4, m5⟩, _⟩ := blk_cells3 y3
        have yb := HI2.out.b.trans ((set3_below (W := wr) (B := w.heap.size) (g := w.heap.size + 2) (by omega) (.slice none 0 0) (.slice none 0 0) (.slice none 0 0)).trans (set3_below (B := w.heap.size) (g := w.heap.size + 3) (by omega) (.slice none 0 0) (.slice none 0 0) (.slice none 0 0)))
        unfold set3 at m0 m1 m2 m3 m4 m5
        refine bodyPost_ret (v := .tuple #[.agg #[.slice none 0 0, .slice none 0 0, .slice none 0 0], .agg #[.slice none 0 0, .slice none 0 0, .slice none 0 0], .int .i64 er]) (by simp [results, Try.results55, go_sem, m0, m1, m2, m3, m4, m5]) rfl ?_
        rw [HST.out]
        exact alR_no (s := (tf.p, tt.p, er)) her yb
    · have hke : k = ln := by omega
      subst hke
      have hst : alG f.p t.p e0 l = (tf.p, tt.p, er) := by rw [← hI.st, List.take_of_length_le (by rw [HLL.out]; exact Nat.le_refl _)]
      have HST := Lib.hid hst
      have i1 : ¬ ((k : Int) < (k : Int)) := by omega
      by_cases her : er = 0
      · subst her
        clear hst hI
        obtain ⟨⟨r0, r1, r2⟩, rf⟩ := blk_cells3 HI2.out.k2
        have rf0 := rf 0
        have rf1 := rf 1
        have rf2 := rf 2
        obtain ⟨⟨s0, s1, s2⟩, sf⟩ := blk_cells3 HI2.out.k3
        have sf0 := sf 0
        have sf1 := sf 1
        have sf2 := sf 2
        clear rf sf
        obtain ⟨⟨c0, c1, c2⟩, _⟩ := blk_cells3 HI2.out.kf
        obtain ⟨⟨d0, d1, d2⟩, _⟩ := blk_cells3 HI2.out.kt
        go_upto_region 14 with fail
        refine wp_region_stop 3 (fun b w' => match b with | true => True | false => (w'.cell? ⟨w.heap.size, 0, none⟩ = some (.slice tf.TA tf.Tn tf.Tc) ∧ w'.cell? ⟨w.heap.size, 1, none⟩ = some (.slice tf.CA tf.Cn tf.Cc) ∧ w'.cell? ⟨w.heap.size, 2, none⟩ = some (.slice tf.EA tf.En tf.Ec)) ∧ w'.cell? ⟨w.heap.size + 1, 0, none⟩ = some (.slice tt.TA tt.Tn tt.Tc) ∧ w'.cell? ⟨w.heap.size + 1, 1, none⟩ = some (.slice tt.CA tt.Cn tt.Cc) ∧ w'.cell? ⟨w.heap.size + 1, 2, none⟩ = some (.slice tt.EA tt.En tt.Ec)) (by kernel_rfl) ⟨⟨c0, c1, c2⟩, d0, d1, d2⟩ (fun hHeld => ?_)
        refine wpAnyS_take (i := 0) (oi := _) (v := ?_) rfl (by kernel_rfl) (by kernel_rfl) (by kernel_rfl) (by kernel_rfl) (by kernel_rfl) (fun _ _ _ h => h) (Or.inl ⟨by rfl, ?_⟩) hHeld ?_
        rotate_left
        · intro w hSw; obtain ⟨⟨s0, s1, s2⟩, s3, s4, s5⟩ := hSw; go_simp; try with_reducible rfl
        simp only [Act.put, List.getElem_toArray, List.getElem_cons_succ, List.getElem_cons_zero, List.setIfInBounds_toArray, List.set_cons_zero, List.set_cons_succ]
        refine wpAnyS_take (i := 1) (oi := _) (v := ?_) rfl (by kernel_rfl) (by kernel_rfl) (by kernel_rfl) (by kernel_rfl) (by kernel_rfl) (fun _ _ _ h => h) (Or.inl ⟨by rfl, ?_⟩) hHeld ?_
        rotate_left
        · intro w hSw; obtain ⟨⟨s0, s1, s2⟩, s3, s4, s5⟩ := hSw; go_simp; try with_reducible rfl
        simp only [Act.put, List.getElem_toArray, List.getElem_cons_succ, List.getElem_cons_zero, List.setIfInBounds_toArray, List.set_cons_zero, List.set_cons_succ]
        refine wpAnyS_ready (rs := [2]) (by kernel_rfl) (by simp) (AllReadyS.cons false (by kernel_rfl) (o := _) rfl (fun K hK => ?_) AllReadyS.nil)
        go_simp
        obtain ⟨x1, hx1⟩ : ∃ x1, x1 = set3 wr.drew (w.heap.size + 2) (.slice tf.TA tf.Tn tf.Tc) (.slice tf.CA tf.Cn tf.Cc) (.slice tf.EA tf.En tf.Ec) := ⟨_, rfl⟩
        have j0 := set3_far (g := w.heap.size + 2) (show Blk wr.drew _ _ _ from HI2.out.kf) (by omega) (.slice tf.TA tf.Tn tf.Tc) (.slice tf.CA tf.Cn tf.Cc) (.slice tf.EA tf.En tf.Ec)
        have j1 := set3_far (g := w.heap.size + 2) (show Blk wr.drew _ _ _ from HI2.out.kt) (by omega) (.slice tf.TA tf.Tn tf.Tc) (.slice tf.CA tf.Cn tf.Cc) (.slice tf.EA tf.En tf.Ec)
        have j2 := set3_blk (show Blk wr.drew _ _ _ from HI2.out.k2) (.slice tf.TA tf.Tn tf.Tc) (.slice tf.CA tf.Cn tf.Cc) (.slice tf.EA tf.En tf.Ec)
        have j3 := set3_far (g := w.heap.size + 2) (show Blk wr.drew _ _ _ from HI2.out.k3) (by omega) (.slice tf.TA tf.Tn tf.Tc) (.slice tf.CA tf.Cn tf.Cc) (.slice tf.EA tf.En tf.Ec)
        have jk := (KeepT.below (Below.refl _ wr).drew).trans (set3_keep (show Blk wr.drew _ _ _ from HI2.out.k2) (.slice tf.TA tf.Tn tf.Tc) (.slice tf.CA tf.Cn tf.Cc) (.slice tf.EA tf.En tf.Ec))
        have jb := HI2.out.b.drew.trans (set3_below (W := wr.drew) (B := w.heap.size) (g := w.heap.size + 2) (by omega) (.slice tf.TA tf.Tn tf.Tc) (.slice tf.CA tf.Cn tf.Cc) (.slice tf.EA tf.En tf.Ec))
        rw [← hx1] at j0 j1 j2 j3 jk jb
        change K _ (set3 wr.drew (w.heap.size + 2) (.slice tf.TA tf.Tn tf.Tc) (.slice tf.CA tf.Cn tf.Cc) (.slice tf.EA tf.En tf.Ec))
        rw [← hx1]
        clear s0 s1 s2 sf0 sf1 sf2 r0 r1 r2 rf0 rf1 rf2
        obtain ⟨⟨s0, s1, s2⟩, sf⟩ := blk_cells3 j3
        have sf0 := sf 0
        have sf1 := sf 1
        have sf2 := sf 2
        clear hx1 sf
        refine hK.out _ _ ⟨(blk_cells3 j0).1, (blk_cells3 j1).1⟩ (fun hHeld => ?_)
        clear hK K
        try simp only [Act.put, List.getElem_toArray, List.getElem_cons_succ, List.getElem_cons_zero, List.setIfInBounds_toArray, List.set_cons_zero, List.set_cons_succ]
        refine wpAnyS_ready (rs := [3]) (by kernel_rfl) (by simp) (AllReadyS.cons true (by kernel_rfl) (o := _) rfl (fun K hK => ?_) AllReadyS.nil)
        go_simp
        have y2 := set3_far (g := w.heap.size + 3) j2 (by omega) (.slice tt.TA tt.Tn tt.Tc) (.slice tt.CA tt.Cn tt.Cc) (.slice tt.EA tt.En tt.Ec)
        have y3 := set3_blk j3 (.slice tt.TA tt.Tn tt.Tc) (.slice tt.CA tt.Cn tt.Cc) (.slice tt.EA tt.En tt.Ec)
        have yk := jk.trans (set3_keep j3 (.slice tt.TA tt.Tn tt.Tc) (.slice tt.CA tt.Cn tt.Cc) (.slice tt.EA tt.En tt.Ec))
        have yb := jb.trans (set3_below (W := x1) (B := w.heap.size) (g := w.heap.size + 3) (by omega) (.slice tt.TA tt.Tn tt.Tc) (.slice tt.CA tt.Cn tt.Cc) (.slice tt.EA tt.En tt.Ec))
        obtain ⟨⟨m0, m1, m2⟩, _⟩ := blk_cells3 y2
        obtain ⟨⟨m3, m4, m5⟩, _⟩ := blk_cells3 y3
        unfold set3 at m0 m1 m2 m3 m4 m5
        refine hK.out _ _ trivial (fun hHeld => ?_)
        clear hK K
        try simp only [Act.put, List.getElem_toArray, List.getElem_cons_succ, List.getElem_cons_zero, List.setIfInBounds_toArray, List.set_cons_zero, List.set_cons_succ]
        refine wpAnyS_take' (i := 4) (oi := _) (v := ?_) rfl (by kernel_rfl) (by kernel_rfl) (by kernel_rfl) (by kernel_rfl) true (by kernel_rfl) (fun _ _ _ h => h) (Or.inl ⟨by rfl, ?_⟩) hHeld ?_
        rotate_left
        · intro w hSw; clear hSw; go_simp; try with_reducible rfl
        simp only [Act.put, List.getElem_toArray, List.getElem_cons_succ, List.getElem_cons_zero, List.setIfInBounds_toArray, List.set_cons_zero, List.set_cons_succ]
        refine wpAnyS_done (by kernel_rfl) ?_ _
        clear hHeld s0 s1 s2 sf0 sf1 sf2 c0 c1 c2 d0 d1 d2
        go_wp2_with fail
        try rw [Exit.noGoto_ret]
        refine bodyPost_ret (v := .tuple #[.agg #[.slice tf.TA tf.Tn tf.Tc, .slice tf.CA tf.Cn tf.Cc, .slice tf.EA tf.En tf.Ec], .agg #[.slice tt.TA tt.Tn tt.Tc, .slice tt.CA tt.Cn tt.Cc, .slice tt.EA tt.En tt.Ec], .int .i64 0]) (by simp [results, Try.results55, go_sem, m0, m1, m2, m3, m4, m5]) rfl ?_
        rw [HST.out]
        exact ⟨tf, tt, rfl, by rw [if_pos rfl], by rw [if_pos rfl], HI2.out.ff.keep yk, HI2.out.ft.keep yk, yb⟩
      · have d1 : (er != 0) = true := by simpa using her
        clear hst hI
        obtain ⟨⟨r0, r1, r2⟩, rf⟩ := blk_cells3 HI2.out.k2
        have rf0 := rf 0
        have rf1 := rf 1
        have rf2 := rf 2
        obtain ⟨⟨s0, s1, s2⟩, sf⟩ := blk_cells3 HI2.out.k3
        have sf0 := sf 0
        have sf1 := sf 1
        have sf2 := sf 2
        clear rf sf
        go_wp2_with fail
        try rw [Exit.noGoto_ret]
        have y2 := set3_far (g := w.heap.size + 3) (set3_blk HI2.out.k2 (.slice none 0 0) (.slice none 0 0) (.slice none 0 0)) (by omega) (.slice none 0 0) (.slice none 0 0) (.slice none 0 0)
        have y3 := set3_blk (set3_far (g := w.heap.size + 2) HI2.out.k3 (by omega) (.slice none 0 0) (.slice none 0 0) (.slice none 0 0)) (.slice none 0 0) (.slice none 0 0) (.slice none 0 0)
        obtain ⟨⟨m0, m1, m2⟩, _⟩ := blk_cells3 y2
        obtain ⟨⟨m3, m4, m5⟩, _⟩ := blk_cells3 y3
        have yb := HI2.out.b.trans ((set3_below (W := wr) (B := w.heap.size) (g := w.heap.size + 2) (by omega) (.slice none 0 0) (.slice none 0 0) (.slice none 0 0)).trans (set3_below (B := w.heap.size) (g := w.heap.size + 3) (by omega) (.slice none 0 0) (.slice none 0 0) (.slice none 0 0)))
        unfold set3 at m0 m1 m2 m3 m4 m5
        refine bodyPost_ret (v := .tuple #[.agg #[.slice none 0 0, .slice none 0 0, .slice none 0 0], .agg #[.slice none 0 0, .slice none 0 0, .slice none 0 0], .int .i64 er]) (by simp [results, Try.results55, go_sem, m0, m1, m2, m3, m4, m5]) rfl ?_
        rw [HST.out]
        exact alR_no (s := (tf.p, tt.p, er)) her yb
end Go.Proofs.Ytbcbknajhdaneaa
