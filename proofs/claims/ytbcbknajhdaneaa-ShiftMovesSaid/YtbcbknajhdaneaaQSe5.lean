/- What is proved: the document's Same of two moves that say the same. -/
import Derived.Test.YtbcbknajhdaneaaQSe4
namespace Go.Proofs.Ytbcbknajhdaneaa
open Go.RowKit Go.Maps
set_option linter.unusedVariables false
set_option linter.unusedSimpArgs false
theorem KeepT.then_ {wm w w' : World} (hk : KeepT wm w) (hb : Below wm.heap.size w w') : KeepT wm w' :=
  ⟨Nat.le_trans hk.1 hb.size, fun g cs t ht hg => (hk.2 g cs t ht hg).below hb hg.lt⟩
set_option maxRecDepth 100000 in
set_option maxHeartbeats 8000000 in
theorem rsame11_any (a1 a2 b1 b2 : Tab) (r m : Int) (w : World) (ha1 : TabOk w w.heap.size a1) (ha2 : TabOk w w.heap.size a2) (hb1 : TabOk w w.heap.size b1) (hb2 : TabOk w w.heap.size b2)
    (sa1 : TabSm a1) (sa2 : TabSm a2) (sb1 : TabSm b1) (sb2 : TabSm b2) (hp1 : a1.p = b1.p) (hp2 : a2.p = b2.p) :
    Calls Try.prog 53 #[.agg #[.slice a1.TA a1.Tn a1.Tc, .slice a1.CA a1.Cn a1.Cc, .slice a1.EA a1.En a1.Ec, .slice a2.TA a2.Tn a2.Tc, .slice a2.CA a2.Cn a2.Cc, .slice a2.EA a2.En a2.Ec, .int .i64 r, .int .u64 m],
      .agg #[.slice b1.TA b1.Tn b1.Tc, .slice b1.CA b1.Cn b1.Cc, .slice b1.EA b1.En b1.Ec, .slice b2.TA b2.Tn b2.Tc, .slice b2.CA b2.Cn b2.Cc, .slice b2.EA b2.En b2.Ec, .int .i64 r, .int .u64 m]] w fun e w' => e = .returned (.bool true) ∧ Below w.heap.size w w' := by
  obtain ⟨W0, hW0, hB, hsz, k0, k1⟩ := two_blk w 82 82 #[.slice a1.TA a1.Tn a1.Tc, .slice a1.CA a1.Cn a1.Cc, .slice a1.EA a1.En a1.Ec, .slice a2.TA a2.Tn a2.Tc, .slice a2.CA a2.Cn a2.Cc, .slice a2.EA a2.En a2.Ec, .int .i64 r, .int .u64 m]
    #[.slice b1.TA b1.Tn b1.Tc, .slice b1.CA b1.Cn b1.Cc, .slice b1.EA b1.En b1.Ec, .slice b2.TA b2.Tn b2.Tc, .slice b2.CA b2.Cn b2.Cc, .slice b2.EA b2.En b2.Ec, .int .i64 r, .int .u64 m]
  have lift := fun (t : Tab) (ht : TabOk w w.heap.size t) (W : World) (h : Below W0.heap.size W0 W) => (ht.keep (hB.trans (h.mono hB.size))).more (hB.trans (h.mono hB.size)).size
  have c1 := fun (W : World) (h : Below W0.heap.size W0 W) => rtsame_any a1 b1 W (lift a1 ha1 W h) (lift b1 hb1 W h) sa1 sb1
  have c2 := fun (W : World) (h : Below W0.heap.size W0 W) => rtsame_any a2 b2 W (lift a2 ha2 W h) (lift b2 hb2 W h) sa2 sb2
  rw [tabQ_p hp1] at c1
  rw [tabQ_p hp2] at c2
  have HW := Lib.hid hW0
  have HB := Lib.hid hB
  have HK := Lib.hid (fun (W : World) (h : Below W0.heap.size W0 W) => And.intro (blk_cells8 (blk_below k0 h)).1 (blk_cells8 (blk_below k1 h)).1)
  unfold Tab.V at c1 c2
  clear hW0 hB hsz k0 k1 ha1 ha2 hb1 hb2 sa1 sa2 sb1 sb2 hp1 hp2 lift
  obtain ⟨⟨q0, q1, q2, q3, q4, q5, q6, q7⟩, ⟨r0, r1, r2, r3, r4, r5, r6, r7⟩⟩ := HK.out W0 (Below.refl _ _)
  have c1' := c1 W0 (Below.refl _ _)
  clear c1
  go_enter Try.func53, Try.ntmps53
  go_upto_region 1 with fail
  rw [← HW.out]
  go_wp2_with (first
    | (go_at_call 22; (first | ((with_reducible refine c1'.mono ?_); rintro en w2 ⟨rfl, hb2⟩; clear c1'; obtain ⟨⟨q0, q1, q2, q3, q4, q5, q6, q7⟩, ⟨r0, r1, r2, r3, r4, r5, r6, r7⟩⟩ := HK.out w2 hb2) | ((with_reducible refine (c2 _ hb2).mono ?_); rintro en w3 ⟨rfl, hb3⟩; have hb23 := hb2.trans (hb3.mono hb2.size); obtain ⟨⟨q0, q1, q2, q3, q4, q5, q6, q7⟩, ⟨r0, r1, r2, r3, r4, r5, r6, r7⟩⟩ := HK.out w3 hb23)))
    | fail)
  go_ret
  first | exact ⟨rfl, HB.out.trans (hb23.mono HB.out.size)⟩ | exact ⟨by simp, HB.out.trans (hb23.mono HB.out.size)⟩
end Go.Proofs.Ytbcbknajhdaneaa
