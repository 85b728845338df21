/- What is proved: shift's Move, whole. -/
import Derived.Test.YtbcbknajhdaneaaVSb3
namespace Go.Proofs.Ytbcbknajhdaneaa
open Go.RowKit Go.Maps
set_option linter.unusedVariables false
set_option linter.unusedSimpArgs false
set_option maxRecDepth 100000 in
set_option maxHeartbeats 4000000 in
theorem move_out (f to : Tab) (row : Int) (w : World) (hf : TabOk w w.heap.size f) (ht : TabOk w w.heap.size to) (sf : TabSm f) (st : TabSm to)
    (hyes : (tabB f && tabB to) = true) (hrow : row < 0 ∨ (f.es.length : Int) ≤ row) :
    Calls Try.prog 50 #[f.V, to.V, .int .i64 row] w (MovR noT noT 0 0 2 w) := by
  obtain ⟨W0, hW0, hB, hsz, k0, k1, k2, k3, k4⟩ := five_blk w 25 25 3 82 32 #[.slice f.TA f.Tn f.Tc, .slice f.CA f.Cn f.Cc, .slice f.EA f.En f.Ec] #[.slice to.TA to.Tn to.Tc, .slice to.CA to.Cn to.Cc, .slice to.EA to.En to.Ec]
    #[.int .i64 row] zMov #[.int .i64 0]
  have cs := fun (W : World) (h : Below W0.heap.size W0 W) => shcheck_any f to W ((hf.keep (hB.trans (h.mono hB.size))).more (hB.trans (h.mono hB.size)).size) ((ht.keep (hB.trans (h.mono hB.size))).more (hB.trans (h.mono hB.size)).size) sf st
  unfold shE at cs
  rw [hyes, if_pos rfl] at cs
  obtain ⟨⟨c0, c1, c2⟩, _⟩ := blk_cells3 k0
  obtain ⟨⟨d0, d1, d2⟩, _⟩ := blk_cells3 k1
  have HW := Lib.hid hW0
  have HK := Lib.hid (fun (W : World) (h : Below W0.heap.size W0 W) => And.intro (blk_below k0 h) (And.intro (blk_below k2 h) (And.intro (blk_below k3 h) (And.intro (blk_below k4 h) (hB.trans (h.mono hB.size))))))
  have hl := hf.len.2.2
  rcases (show row < 0 ∨ (¬ row < 0 ∧ (f.En : Int) ≤ row) from by omega) with i1 | ⟨i1, i2⟩
  · have i3 : decide (row < 0) = true := decide_eq_true i1
    unfold Tab.V at cs ⊢
    unfold zMov at HW HK
    clear hW0 hsz k0 k1 k2 k3 k4 hf ht hyes hrow
    go_enter Try.func50, Try.ntmps50
    go_upto_region 1 with fail
    rw [← HW.out]
    go_wp2_with (first
      | (go_at_call 98; ((with_reducible refine (cs _ (Below.refl _ _)).mono ?_); rintro en w2 ⟨rfl, hb2⟩; obtain ⟨k0, k2, k3, k4, hbb⟩ := HK.out _ hb2; have U3 := Lib.hid k3; have U4 := Lib.hid k4; obtain ⟨⟨c0, c1, c2⟩, _⟩ := blk_cells3 k0; obtain ⟨r0, _⟩ := blk_cell1 k2; obtain ⟨⟨q0, q1, q2, q3, q4, q5, q6, q7⟩, ⟨qf0, qf1, qf2, qf3, qf4, qf5, qf6, qf7⟩⟩ := blk_cells8 k3; obtain ⟨p0, pf⟩ := blk_cell1 k4; clear k0 k2 k3 k4))
      | fail)
    obtain ⟨m1, m2, m3, m4, m5⟩ := setMov_all U3.out U4.out (.slice none 0 0) (.slice none 0 0) (.slice none 0 0) (.slice none 0 0) (.slice none 0 0) (.slice none 0 0) (.int .i64 0) (.int .u64 0) (.int .i64 2)
    obtain ⟨⟨r0, r1, r2, r3, r4, r5, r6, r7⟩, _⟩ := blk_cells8 m1
    obtain ⟨z0, _⟩ := blk_cell1 m2
    unfold setMov set8 at r0 r1 r2 r3 r4 r5 r6 r7 z0
    refine bodyPost_ret (v := .tuple #[.agg #[.slice none 0 0, .slice none 0 0, .slice none 0 0, .slice none 0 0, .slice none 0 0, .slice none 0 0, .int .i64 0, .int .u64 0], .int .i64 2]) (by simp [results, Try.results50, go_sem, *]) rfl ?_
    exact movR_nil 2 (hbb.trans (m5 _ (by omega) (by omega)))
  · have i3 : decide (row < 0) = false := decide_eq_false i1
    have i4 : decide ((f.En : Int) ≤ row) = true := decide_eq_true i2
    unfold Tab.V at cs ⊢
    unfold zMov at HW HK
    clear hW0 hsz k0 k1 k2 k3 k4 hf ht hyes hrow
    go_enter Try.func50, Try.ntmps50
    go_upto_region 1 with fail
    rw [← HW.out]
    go_wp2_with (first
      | (go_at_call 98; ((with_reducible refine (cs _ (Below.refl _ _)).mono ?_); rintro en w2 ⟨rfl, hb2⟩; obtain ⟨k0, k2, k3, k4, hbb⟩ := HK.out _ hb2; have U3 := Lib.hid k3; have U4 := Lib.hid k4; obtain ⟨⟨c0, c1, c2⟩, _⟩ := blk_cells3 k0; obtain ⟨r0, _⟩ := blk_cell1 k2; obtain ⟨⟨q0, q1, q2, q3, q4, q5, q6, q7⟩, ⟨qf0, qf1, qf2, qf3, qf4, qf5, qf6, qf7⟩⟩ := blk_cells8 k3; obtain ⟨p0, pf⟩ := blk_cell1 k4; clear k0 k2 k3 k4))
      | fail)
    obtain ⟨m1, m2, m3, m4, m5⟩ := setMov_all U3.out U4.out (.slice none 0 0) (.slice none 0 0) (.slice none 0 0) (.slice none 0 0) (.slice none 0 0) (.slice none 0 0) (.int .i64 0) (.int .u64 0) (.int .i64 2)
    obtain ⟨⟨r0, r1, r2, r3, r4, r5, r6, r7⟩, _⟩ := blk_cells8 m1
    obtain ⟨z0, _⟩ := blk_cell1 m2
    unfold setMov set8 at r0 r1 r2 r3 r4 r5 r6 r7 z0
    refine bodyPost_ret (v := .tuple #[.agg #[.slice none 0 0, .slice none 0 0, .slice none 0 0, .slice none 0 0, .slice none 0 0, .slice none 0 0, .int .i64 0, .int .u64 0], .int .i64 2]) (by simp [results, Try.results50, go_sem, *]) rfl ?_
    exact movR_nil 2 (hbb.trans (m5 _ (by omega) (by omega)))
set_option maxRecDepth 100000 in
theorem move_any (f to : Tab) (row : Int) (w : World) (hf : TabOk w w.heap.size f) (ht : TabOk w w.heap.size to) (sf : TabSm f) (st : TabSm to)
    (nf : f.Cn ≤ 65536 ∧ f.Tn ≤ 65536 ∧ f.En ≤ 65536) (nt : to.Cn ≤ 65536 ∧ to.Tn ≤ 65536 ∧ to.En ≤ 65535) :
    Calls Try.prog 50 #[f.V, to.V, .int .i64 row] w (MovR (mvF f to row) (mvT f to row) (mvR f to row) (mvM f to row) (mvE f to row) w) := by
  cases hb : (tabB f && tabB to)
  · have hE : mvE f to row = 190 := by unfold mvE; rw [hb, if_neg (by decide)]
    have h := move_no f to row w hf ht sf st hb
    unfold mvF mvT mvR mvM
    rw [hE, if_neg (by decide), if_neg (by decide), if_neg (by decide), if_neg (by decide)]
    exact h
  · by_cases hr : row < 0 ∨ (f.es.length : Int) ≤ row
    · have hE : mvE f to row = 2 := by unfold mvE; rw [hb, if_pos rfl, if_pos hr]
      have h := move_out f to row w hf ht sf st hb hr
      unfold mvF mvT mvR mvM
      rw [hE, if_neg (by decide), if_neg (by decide), if_neg (by decide), if_neg (by decide)]
      exact h
    · obtain ⟨r, rfl⟩ : ∃ r : Nat, row = r := ⟨row.toNat, by omega⟩
      rw [Bool.and_eq_true] at hb
      exact move_main f to r w hf ht sf st nf nt hb.1 hb.2 (by omega)
end Go.Proofs.Ytbcbknajhdaneaa
