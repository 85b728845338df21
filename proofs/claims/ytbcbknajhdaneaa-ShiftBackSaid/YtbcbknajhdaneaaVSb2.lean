/- What is proved: how Move's two results are laid in their cells. -/
import Derived.Test.YtbcbknajhdaneaaVSb1
namespace Go.Proofs.Ytbcbknajhdaneaa
open Go.RowKit Go.Maps
set_option linter.unusedVariables false
set_option linter.unusedSimpArgs false
theorem blk_cells8 {w : World} {g : Nat} {t : TypeId} {a b c d e f h i : Value} (hk : Blk w g t #[a, b, c, d, e, f, h, i]) :
    (w.cell? ⟨g, 0, none⟩ = some a ∧ w.cell? ⟨g, 1, none⟩ = some b ∧ w.cell? ⟨g, 2, none⟩ = some c ∧ w.cell? ⟨g, 3, none⟩ = some d ∧ w.cell? ⟨g, 4, none⟩ = some e ∧ w.cell? ⟨g, 5, none⟩ = some f ∧ w.cell? ⟨g, 6, none⟩ = some h ∧ w.cell? ⟨g, 7, none⟩ = some i) ∧
    (w.frozen? ⟨g, 0, none⟩ = false ∧ w.frozen? ⟨g, 1, none⟩ = false ∧ w.frozen? ⟨g, 2, none⟩ = false ∧ w.frozen? ⟨g, 3, none⟩ = false ∧ w.frozen? ⟨g, 4, none⟩ = false ∧ w.frozen? ⟨g, 5, none⟩ = false ∧ w.frozen? ⟨g, 6, none⟩ = false ∧ w.frozen? ⟨g, 7, none⟩ = false) :=
  ⟨⟨hk.cell 0, hk.cell 1, hk.cell 2, hk.cell 3, hk.cell 4, hk.cell 5, hk.cell 6, hk.cell 7⟩, ⟨hk.frozen 0, hk.frozen 1, hk.frozen 2, hk.frozen 3, hk.frozen 4, hk.frozen 5, hk.frozen 6, hk.frozen 7⟩⟩
def set8 (W : World) (g : Nat) (a b c d e f h i : Value) : World :=
  (((((((W.setCell ⟨g, 0, none⟩ a).setCell ⟨g, 1, none⟩ b).setCell ⟨g, 2, none⟩ c).setCell ⟨g, 3, none⟩ d).setCell ⟨g, 4, none⟩ e).setCell ⟨g, 5, none⟩ f).setCell ⟨g, 6, none⟩ h).setCell ⟨g, 7, none⟩ i
theorem set8_all {W : World} {g : Nat} {t : TypeId} {a' b' c' d' e' f' h' i' : Value} (hk : Blk W g t #[a', b', c', d', e', f', h', i']) (ht : t ≠ 26 ∧ t ≠ 27 ∧ t ≠ 68) (a b c d e f h i : Value) :
    Blk (set8 W g a b c d e f h i) g t #[a, b, c, d, e, f, h, i] ∧ KeepsOthers W (set8 W g a b c d e f h i) ∧ KeepT W (set8 W g a b c d e f h i) ∧ (∀ B, B ≤ g → Below B W (set8 W g a b c d e f h i)) ∧
      (∀ (g2 : Nat) (t2 : TypeId) (cs : Array Value), g2 ≠ g → Blk W g2 t2 cs → Blk (set8 W g a b c d e f h i) g2 t2 cs) := by
  have k0 := hk.set_ 0 a
  have k1 := k0.set_ 1 b
  have k2 := k1.set_ 2 c
  have k3 := k2.set_ 3 d
  have k4 := k3.set_ 4 e
  have k5 := k4.set_ 5 f
  have k6 := k5.set_ 6 h
  have k7 := k6.set_ 7 i
  refine ⟨by simpa [set8] using k7, ?_, ?_, ?_, ?_⟩
  · exact (((((((KeepsOthers.setCell _ _ _).trans (KeepsOthers.setCell _ _ _)).trans (KeepsOthers.setCell _ _ _)).trans (KeepsOthers.setCell _ _ _)).trans (KeepsOthers.setCell _ _ _)).trans (KeepsOthers.setCell _ _ _)).trans (KeepsOthers.setCell _ _ _)).trans (KeepsOthers.setCell _ _ _)
  · exact (((((((KeepT.set hk ht a).trans (KeepT.set k0 ht b)).trans (KeepT.set k1 ht c)).trans (KeepT.set k2 ht d)).trans (KeepT.set k3 ht e)).trans (KeepT.set k4 ht f)).trans (KeepT.set k5 ht h)).trans (KeepT.set k6 ht i)
  · intro B hB
    exact ((((((((Below.refl B W).setCell (p := ⟨g, 0, none⟩) hB a).setCell (p := ⟨g, 1, none⟩) hB b).setCell (p := ⟨g, 2, none⟩) hB c).setCell (p := ⟨g, 3, none⟩) hB d).setCell (p := ⟨g, 4, none⟩) hB e).setCell (p := ⟨g, 5, none⟩) hB f).setCell (p := ⟨g, 6, none⟩) hB h).setCell (p := ⟨g, 7, none⟩) hB i
  · intro g2 t2 cs hne hk2
    exact (((((((hk2.far (p := ⟨g, 0, none⟩) hne a).far (p := ⟨g, 1, none⟩) hne b).far (p := ⟨g, 2, none⟩) hne c).far (p := ⟨g, 3, none⟩) hne d).far (p := ⟨g, 4, none⟩) hne e).far (p := ⟨g, 5, none⟩) hne f).far (p := ⟨g, 6, none⟩) hne h).far (p := ⟨g, 7, none⟩) hne i
/-- both results laid -/
def setMov (W : World) (g q : Nat) (a b c d e f h i er : Value) : World := (set8 W g a b c d e f h i).setCell ⟨q, 0, none⟩ er
theorem setMov_all {W : World} {g q : Nat} {a' b' c' d' e' f' h' i' x : Value} (hk : Blk W g 82 #[a', b', c', d', e', f', h', i']) (hq : Blk W q 32 #[x]) (a b c d e f h i er : Value) :
    Blk (setMov W g q a b c d e f h i er) g 82 #[a, b, c, d, e, f, h, i] ∧ Blk (setMov W g q a b c d e f h i er) q 32 #[er] ∧ KeepsOthers W (setMov W g q a b c d e f h i er) ∧ KeepT W (setMov W g q a b c d e f h i er) ∧
      (∀ B, B ≤ g → B ≤ q → Below B W (setMov W g q a b c d e f h i er)) := by
  have hne : g ≠ q := fun e9 => by
    subst e9
    unfold Blk at hk hq
    rw [hk] at hq
    injection hq with hq
    injection hq with _ hq
    revert hq
    decide
  obtain ⟨h1, h2, h3, h4, h5⟩ := set8_all hk (by decide) a b c d e f h i
  have hq2 := h5 q _ _ (fun e => hne e.symm) hq
  refine ⟨h1.far (p := ⟨q, 0, none⟩) hne er, by simpa [setMov] using hq2.set_ 0 er, h2.trans (KeepsOthers.setCell _ _ _), h3.trans (KeepT.set hq2 (by decide) er), fun B hB hB2 => (h4 B hB).setCell (p := ⟨q, 0, none⟩) hB2 er⟩
theorem five_blk (w : World) (t1 t2 t3 t4 t5 : TypeId) (a1 a2 a3 a4 a5 : Array Value) : ∃ W0, W0 = ((((w.alloc (.cells a1 t1)).alloc (.cells a2 t2)).alloc (.cells a3 t3)).alloc (.cells a4 t4)).alloc (.cells a5 t5) ∧ Below w.heap.size w W0 ∧ W0.heap.size = w.heap.size + 5 ∧
    Blk W0 w.heap.size t1 a1 ∧ Blk W0 (w.heap.size + 1) t2 a2 ∧ Blk W0 (w.heap.size + 2) t3 a3 ∧ Blk W0 (w.heap.size + 3) t4 a4 ∧ Blk W0 (w.heap.size + 4) t5 a5 := by
  refine ⟨_, rfl, (((((Below.refl w.heap.size w).alloc (Nat.le_refl _) _).alloc (by simp) _).alloc (by simp; omega) _).alloc (by simp; omega) _).alloc (by simp; omega) _, by simp, ?_, ?_, ?_, ?_, ?_⟩
  · exact ((((Blk.new w _ _).alloc _).alloc _).alloc _).alloc _
  · have h := Blk.new (w.alloc (.cells a1 t1)) t2 a2
    rw [World.size_alloc] at h
    exact ((h.alloc _).alloc _).alloc _
  · have h := Blk.new ((w.alloc (.cells a1 t1)).alloc (.cells a2 t2)) t3 a3
    rw [World.size_alloc, World.size_alloc] at h
    exact (h.alloc _).alloc _
  · have h := Blk.new (((w.alloc (.cells a1 t1)).alloc (.cells a2 t2)).alloc (.cells a3 t3)) t4 a4
    rw [World.size_alloc, World.size_alloc, World.size_alloc] at h
    exact h.alloc _
  · have h := Blk.new ((((w.alloc (.cells a1 t1)).alloc (.cells a2 t2)).alloc (.cells a3 t3)).alloc (.cells a4 t4)) t5 a5
    rw [World.size_alloc, World.size_alloc, World.size_alloc, World.size_alloc] at h
    exact h
def zMov : Array Value := #[.slice none 0 0, .slice none 0 0, .slice none 0 0, .slice none 0 0, .slice none 0 0, .slice none 0 0, .int .i64 0, .int .u64 0]
/-- what Move hands back: the table without the row, and the one with it, in memory of its own -/
def MovR (pf pt : PT) (r m er : Int) (w : World) (e : Ending) (w' : World) : Prop :=
  ∃ (tf tt : Tab) (wm : World), e = .returned (.tuple #[.agg #[.slice tf.TA tf.Tn tf.Tc, .slice tf.CA tf.Cn tf.Cc, .slice tf.EA tf.En tf.Ec, .slice tt.TA tt.Tn tt.Tc, .slice tt.CA tt.Cn tt.Cc, .slice tt.EA tt.En tt.Ec, .int .i64 r, .int .u64 m], .int .i64 er]) ∧ tf.p = pf ∧ tt.p = pt ∧ TabFresh wm w.heap.size tt ∧ Below w.heap.size w wm ∧ KeepT wm w' ∧ TabFresh w' wm.heap.size tf ∧ Below w.heap.size w w'
def niT : Tab := ⟨none, 0, 0, [], none, 0, 0, [], none, 0, 0, []⟩
theorem niT_fresh (w : World) (base : Nat) : TabFresh w base niT := ⟨idFresh_nil _ _, World.ownsRow_nil _ _ _ _, by simp [niT], idFresh_nil _ _⟩
theorem movR_nil (er : Int) {w w' : World} (h : Below w.heap.size w w') :
    MovR noT noT 0 0 er w (.returned (.tuple #[.agg #[.slice none 0 0, .slice none 0 0, .slice none 0 0, .slice none 0 0, .slice none 0 0, .slice none 0 0, .int .i64 0, .int .u64 0], .int .i64 er])) w' :=
  ⟨niT, niT, w, rfl, rfl, rfl, niT_fresh _ _, Below.refl _ _, KeepT.below h, niT_fresh _ _, h⟩
set_option maxRecDepth 100000 in
set_option maxHeartbeats 4000000 in
theorem move_no (f to : Tab) (row : Int) (w : World) (hf : TabOk w w.heap.size f) (ht : TabOk w w.heap.size to) (sf : TabSm f) (st : TabSm to)
    (hno : (tabB f && tabB to) = false) :
    Calls Try.prog 50 #[f.V, to.V, .int .i64 row] w (MovR noT noT 0 0 190 w) := by
  obtain ⟨W0, hW0, hB, hsz, k0, k1, k2, k3, k4⟩ := five_blk w 25 25 3 82 32 #[.slice f.TA f.Tn f.Tc, .slice f.CA f.Cn f.Cc, .slice f.EA f.En f.Ec] #[.slice to.TA to.Tn to.Tc, .slice to.CA to.Cn to.Cc, .slice to.EA to.En to.Ec]
    #[.int .i64 row] zMov #[.int .i64 0]
  have cs := fun (W : World) (h : Below W0.heap.size W0 W) => shcheck_any f to W ((hf.keep (hB.trans (h.mono hB.size))).more (hB.trans (h.mono hB.size)).size) ((ht.keep (hB.trans (h.mono hB.size))).more (hB.trans (h.mono hB.size)).size) sf st
  unfold shE at cs
  rw [hno] at cs
  obtain ⟨⟨c0, c1, c2⟩, _⟩ := blk_cells3 k0
  obtain ⟨⟨d0, d1, d2⟩, _⟩ := blk_cells3 k1
  have HW := Lib.hid hW0
  have HK := Lib.hid (fun (W : World) (h : Below W0.heap.size W0 W) => And.intro (blk_below k3 h) (And.intro (blk_below k4 h) (hB.trans (h.mono hB.size))))
  unfold Tab.V at cs ⊢
  unfold zMov at HW HK
  clear hW0 hsz k0 k1 k2 k3 k4 hf ht hno
  go_enter Try.func50, Try.ntmps50
  go_upto_region 1 with fail
  rw [← HW.out]
  go_wp2_with (first
    | (go_at_call 98; ((with_reducible refine (cs _ (Below.refl _ _)).mono ?_); rintro en w2 ⟨rfl, hb2⟩; obtain ⟨k3, k4, hbb⟩ := HK.out _ hb2; have U3 := Lib.hid k3; have U4 := Lib.hid k4; obtain ⟨⟨q0, q1, q2, q3, q4, q5, q6, q7⟩, ⟨qf0, qf1, qf2, qf3, qf4, qf5, qf6, qf7⟩⟩ := blk_cells8 k3; obtain ⟨p0, pf⟩ := blk_cell1 k4; clear k3 k4))
    | fail)
  obtain ⟨m1, m2, m3, m4, m5⟩ := setMov_all U3.out U4.out (.slice none 0 0) (.slice none 0 0) (.slice none 0 0) (.slice none 0 0) (.slice none 0 0) (.slice none 0 0) (.int .i64 0) (.int .u64 0) (.int .i64 190)
  obtain ⟨⟨r0, r1, r2, r3, r4, r5, r6, r7⟩, _⟩ := blk_cells8 m1
  obtain ⟨z0, _⟩ := blk_cell1 m2
  unfold setMov set8 at r0 r1 r2 r3 r4 r5 r6 r7 z0
  refine bodyPost_ret (v := .tuple #[.agg #[.slice none 0 0, .slice none 0 0, .slice none 0 0, .slice none 0 0, .slice none 0 0, .slice none 0 0, .int .i64 0, .int .u64 0], .int .i64 190]) (by simp [results, Try.results50, go_sem, *]) rfl ?_
  exact movR_nil 190 (hbb.trans (m5 _ (by omega) (by omega)))
end Go.Proofs.Ytbcbknajhdaneaa
