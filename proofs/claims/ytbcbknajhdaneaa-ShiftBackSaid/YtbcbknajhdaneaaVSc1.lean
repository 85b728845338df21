/- What is proved: shift's without and Lost. -/
import Derived.Test.YtbcbknajhdaneaaVSb9
namespace Go.Proofs.Ytbcbknajhdaneaa
open Go.RowKit Go.Maps
set_option linter.unusedVariables false
set_option linter.unusedSimpArgs false
set_option maxRecDepth 100000 in
set_option maxHeartbeats 4000000 in
theorem without_any (A : Option Addr) (n c : Nat) (l : List Int) (BA : Option Addr) (bn bc : Nat) (b : List Int) (w : World) (hA : Reads w w.heap.size 1 A n (ids l)) (hn : n ≤ 65536) (hR : Reads w w.heap.size 1 BA bn (ids b)) (hbn : bn ≤ 65536) :
    Calls Try.prog 103 #[.slice A n c, .slice BA bn bc] w (LeftR (keepL b l) w.heap.size w) := by
  obtain ⟨W0, hW0⟩ : ∃ W0, W0 = w.alloc (.cells #[.slice BA bn bc] 22) := ⟨_, rfl⟩
  have hB : Below w.heap.size w W0 := by rw [hW0]; exact (Below.refl _ _).alloc (Nat.le_refl _) _
  have hk : Blk W0 w.heap.size 22 #[.slice BA bn bc] := by rw [hW0]; exact Blk.new w _ _
  have cl := clone_d A n c l W0 ((hA.below hB).more hB.size) hn
  have hll : l.length = n := by have := hA.1; rw [ids_len] at this; omega
  have hbz := hk.lt
  have cd := fun (A' : Option Addr) (c' : Nat) (W : World) (hb : Below W0.heap.size W0 W) (ho : W.ownsRow W0.heap.size 27 1 (.slice A' l.length c') l.length (ids l)) => delf_any W0.heap.size A' l.length c' l w.heap.size BA bn bc b W hb.size ho (by omega) (hk.below hb hbz) hbz ((hR.below (hB.trans (hb.mono hB.size))).more hB.size) (by omega)
  have HW := Lib.hid hW0
  have HB := Lib.hid hB
  unfold OwnD at cl
  unfold LeftR at cd
  clear hW0 hB hk hA hR hll hbz
  go_enter Try.func103, Try.ntmps103
  go_upto_region 1 with fail
  rw [← HW.out]
  go_wp2_with (first
    | (go_at_call 62; ((with_reducible refine cl.mono ?_); rintro en w2 ⟨v, rfl, ho, hb2⟩; obtain ⟨A', c', rfl⟩ := own_slice ho; have cd2 := cd A' c' w2 hb2 ho; clear cd))
    | (go_at_call 129; ((with_reducible refine cd2.mono ?_); rintro en w3 ⟨A3, m3, c3, rfl, hR3, hb3⟩))
    | fail)
  go_ret
  exact ⟨_, _, _, rfl, hR3, HB.out.trans ((hb2.trans hb3).mono HB.out.size)⟩
/-- what Lost hands back -/
def LostR (L : List Int) (er : Int) (w : World) (e : Ending) (w' : World) : Prop := ∃ A m c, e = .returned (.tuple #[.slice A m c, .int .i64 er]) ∧ Reads w' w'.heap.size 1 A m (ids L) ∧ Below w.heap.size w w'
set_option maxRecDepth 100000 in
set_option maxHeartbeats 4000000 in
theorem lost_any (f t : Tab) (w : World) (hf : TabOk w w.heap.size f) (ht : TabOk w w.heap.size t) (sf : TabSm f) (st : TabSm t) (nf : f.Tn ≤ 65536) (nt : t.Tn ≤ 65536) :
    Calls Try.prog 57 #[f.V, t.V] w (LostR (if shE f t = 0 then keepL t.ty f.ty else []) (shE f t) w) := by
  obtain ⟨W0, hW0, hB, hsz, k0, k1⟩ := two_blk w 25 25 #[.slice f.TA f.Tn f.Tc, .slice f.CA f.Cn f.Cc, .slice f.EA f.En f.Ec] #[.slice t.TA t.Tn t.Tc, .slice t.CA t.Cn t.Cc, .slice t.EA t.En t.Ec]
  have hTf := fun (W : World) (h : Below W0.heap.size W0 W) => (hf.keep (hB.trans (h.mono hB.size))).more (hB.trans (h.mono hB.size)).size
  have hTt := fun (W : World) (h : Below W0.heap.size W0 W) => (ht.keep (hB.trans (h.mono hB.size))).more (hB.trans (h.mono hB.size)).size
  have cs := fun (W : World) (h : Below W0.heap.size W0 W) => shcheck_any f t W (hTf W h) (hTt W h) sf st
  have cw := fun (W : World) (h : Below W0.heap.size W0 W) => without_any f.TA f.Tn f.Tc f.ty t.TA t.Tn t.Tc t.ty W (hTf W h).ty nf (hTt W h).ty nt
  obtain ⟨⟨c0, c1, c2⟩, _⟩ := blk_cells3 k0
  obtain ⟨⟨d0, d1, d2⟩, _⟩ := blk_cells3 k1
  have HW := Lib.hid hW0
  have HB := Lib.hid hB
  have HK := Lib.hid (fun (W : World) (h : Below W0.heap.size W0 W) => And.intro (blk_below k0 h) (blk_below k1 h))
  obtain ⟨er, her⟩ : ∃ e, e = shE f t := ⟨_, rfl⟩
  rw [← her]
  simp only [← her] at cs
  unfold Tab.V at cs ⊢
  unfold LeftR at cw
  clear hW0 hB hsz k0 k1 hf ht sf st nf nt hTf hTt her
  by_cases h0 : er = 0
  · subst h0
    rw [if_pos rfl]
    go_enter Try.func57, Try.ntmps57
    go_upto_region 1 with fail
    rw [← HW.out]
    go_wp2_with (first
      | (go_at_call 98; ((with_reducible refine (cs _ (Below.refl _ _)).mono ?_); rintro en w2 ⟨rfl, hb2⟩; obtain ⟨k0, k1⟩ := HK.out _ hb2; obtain ⟨⟨c0, c1, c2⟩, _⟩ := blk_cells3 k0; obtain ⟨⟨d0, d1, d2⟩, _⟩ := blk_cells3 k1; clear k0 k1))
      | (go_at_call 103; ((with_reducible refine (cw _ hb2).mono ?_); rintro en w3 ⟨A3, m3, c3, rfl, hR3, hb3⟩))
      | fail)
    go_ret2
    exact ⟨_, _, _, rfl, hR3, HB.out.trans ((hb2.trans (hb3.mono hb2.size)).mono HB.out.size)⟩
  · rw [if_neg h0]
    have d1' : (er != 0) = true := by simpa using h0
    clear cw
    go_enter Try.func57, Try.ntmps57
    go_upto_region 1 with fail
    rw [← HW.out]
    go_wp2_with (first
      | (go_at_call 98; ((with_reducible refine (cs _ (Below.refl _ _)).mono ?_); rintro en w2 ⟨rfl, hb2⟩))
      | fail)
    go_ret2
    exact ⟨_, _, _, rfl, Reads.none_, HB.out.trans (hb2.mono HB.out.size)⟩
end Go.Proofs.Ytbcbknajhdaneaa
