/- What is proved: contracts of column's Set and Swap. -/
import Derived.Test.YtbcbknajhdaneaaTaZ
namespace Go.Proofs.Ytbcbknajhdaneaa
open Go.RowKit
set_option linter.unusedVariables false
set_option linter.unusedSimpArgs false
set_option maxRecDepth 100000 in
set_option maxHeartbeats 4000000 in
theorem cset_any (x : Col) (row : Int) (v : Rw) (w : World) (hx : ColOk w w.heap.size x) (hvo : RwOk w w.heap.size v) :
    Calls Try.prog 93 #[x.V, .int .i64 row, .slice v.A v.n v.c] w (ColR (setP x row v) (setE x row v) w) := by
  obtain ⟨W0, hW0⟩ : ∃ W0, W0 = (((w.alloc (.cells #[.int .i64 x.W, .int .i64 x.R, .slice x.A x.n x.c] 68)).alloc (.cells #[.int .i64 row] 3)).alloc (.cells #[.slice v.A v.n v.c] 44)).alloc (.cells #[.int .i64 0, .int .i64 0, .slice none 0 0] 68) := ⟨_, rfl⟩
  have hB : Below w.heap.size w W0 := by rw [hW0]; exact ((((Below.refl w.heap.size w).alloc (Nat.le_refl _) _).alloc (by simp) _).alloc (by simp; omega) _).alloc (by simp; omega) _
  have hsz : W0.heap.size = w.heap.size + 4 := by rw [hW0]; simp
  have k0 : Blk W0 w.heap.size 68 #[.int .i64 x.W, .int .i64 x.R, .slice x.A x.n x.c] := by rw [hW0]; exact (((Blk.new w _ _).alloc _).alloc _).alloc _
  have k1 : Blk W0 (w.heap.size + 1) 3 #[.int .i64 row] := by
    rw [hW0]
    have h := Blk.new (w.alloc (.cells #[.int .i64 x.W, .int .i64 x.R, .slice x.A x.n x.c] 68)) 3 #[.int .i64 row]
    rw [World.size_alloc] at h
    exact (h.alloc _).alloc _
  have k2 : Blk W0 (w.heap.size + 2) 44 #[.slice v.A v.n v.c] := by
    rw [hW0]
    have h := Blk.new ((w.alloc (.cells #[.int .i64 x.W, .int .i64 x.R, .slice x.A x.n x.c] 68)).alloc (.cells #[.int .i64 row] 3)) 44 #[.slice v.A v.n v.c]
    rw [World.size_alloc, World.size_alloc] at h
    exact h.alloc _
  have k3 : Blk W0 (w.heap.size + 3) 68 #[.int .i64 0, .int .i64 0, .slice none 0 0] := by
    rw [hW0]
    have h := Blk.new (((w.alloc (.cells #[.int .i64 x.W, .int .i64 x.R, .slice x.A x.n x.c] 68)).alloc (.cells #[.int .i64 row] 3)).alloc (.cells #[.slice v.A v.n v.c] 44)) 68 #[.int .i64 0, .int .i64 0, .slice none 0 0]
    rw [World.size_alloc, World.size_alloc, World.size_alloc] at h
    exact h
  have c10 : W0.cell? ⟨w.heap.size + 1, 0, none⟩ = some (.int .i64 row) := k1.cell 0
  have c20 : W0.cell? ⟨w.heap.size + 2, 0, none⟩ = some (.slice v.A v.n v.c) := k2.cell 0
  obtain ⟨⟨x0, x1, x2⟩, _⟩ := blk_cells3 k0
  have cd := does_set x row (w.heap.size + 2) (w.heap.size + 1) v W0 ((hx.keep hB).more hB.size) c20 c10 (by omega) (by omega) ((hvo.keep hB).more hB.size)
  unfold Col.V colV at cd
  have HW := Lib.hid hW0
  have HS := Lib.hid hsz
  have HK3 := Lib.hid k3
  unfold Col.V colV
  generalize setP x row v = p at *
  generalize setE x row v = er at *
  obtain ⟨xW, xR, xA, xn, xc, xl⟩ := x
  obtain ⟨vA, vn, vc, vl⟩ := v
  simp only at *
  clear hW0 hsz hx hvo k0 k1 k2 k3
  go_enter Try.func93, Try.ntmps93
  go_upto_region 1 with fail
  rw [← HW.out]
  go_wp2_with (first
    | (go_at_call 119; ((with_reducible refine cd.mono ?_); rintro e w5 ⟨x', rfl, hp, hf, hb5⟩; obtain ⟨xW', xR', xA', xn', xc', xl'⟩ := x'; have hk := HK3.out.below hb5 (by have := HS.out; omega); obtain ⟨⟨q0, q1, q2⟩, qf⟩ := blk_cells3 hk; have qf0 := qf 0; have qf1 := qf 1; have qf2 := qf 2; have HF := Lib.hid hf; have HP := Lib.hid hp; have HK := Lib.hid hk; unfold Col.V colV; (try simp only); clear hf hp hk qf))
    | fail)
  refine bodyPost_ret (v := .tuple #[.agg #[.int .i64 xW', .int .i64 xR', .slice xA' xn' xc'], .int .i64 er]) (by simp [results, Try.results93, go_sem, *]) rfl ?_
  exact ⟨⟨xW', xR', xA', xn', xc', xl'⟩, rfl, HP.out, fresh_set3 (colFresh_base HF.out hB.size) HK.out (by decide) _ _ _, below_set3 (hB.trans (hb5.mono hB.size)) (by omega)⟩
set_option maxRecDepth 100000 in
set_option maxHeartbeats 4000000 in
theorem cswap_any (x : Col) (row : Int) (w : World) (hx : ColOk w w.heap.size x) :
    Calls Try.prog 86 #[x.V, .int .i64 row] w (ColR (swpP x row) (getE x row) w) := by
  obtain ⟨W0, hW0⟩ : ∃ W0, W0 = ((w.alloc (.cells #[.int .i64 x.W, .int .i64 x.R, .slice x.A x.n x.c] 68)).alloc (.cells #[.int .i64 row] 3)).alloc (.cells #[.int .i64 0, .int .i64 0, .slice none 0 0] 68) := ⟨_, rfl⟩
  have hB : Below w.heap.size w W0 := by rw [hW0]; exact (((Below.refl w.heap.size w).alloc (Nat.le_refl _) _).alloc (by simp) _).alloc (by simp; omega) _
  have hsz : W0.heap.size = w.heap.size + 3 := by rw [hW0]; simp
  have k0 : Blk W0 w.heap.size 68 #[.int .i64 x.W, .int .i64 x.R, .slice x.A x.n x.c] := by rw [hW0]; exact ((Blk.new w _ _).alloc _).alloc _
  have k1 : Blk W0 (w.heap.size + 1) 3 #[.int .i64 row] := by
    rw [hW0]
    have h := Blk.new (w.alloc (.cells #[.int .i64 x.W, .int .i64 x.R, .slice x.A x.n x.c] 68)) 3 #[.int .i64 row]
    rw [World.size_alloc] at h
    exact h.alloc _
  have k3 : Blk W0 (w.heap.size + 2) 68 #[.int .i64 0, .int .i64 0, .slice none 0 0] := by
    rw [hW0]
    have h := Blk.new ((w.alloc (.cells #[.int .i64 x.W, .int .i64 x.R, .slice x.A x.n x.c] 68)).alloc (.cells #[.int .i64 row] 3)) 68 #[.int .i64 0, .int .i64 0, .slice none 0 0]
    rw [World.size_alloc, World.size_alloc] at h
    exact h
  have c10 : W0.cell? ⟨w.heap.size + 1, 0, none⟩ = some (.int .i64 row) := k1.cell 0
  obtain ⟨⟨x0, x1, x2⟩, _⟩ := blk_cells3 k0
  have cd := does_swap x row (w.heap.size + 1) W0 ((hx.keep hB).more hB.size) c10 (by omega)
  unfold Col.V colV at cd
  have HW := Lib.hid hW0
  have HS := Lib.hid hsz
  have HK3 := Lib.hid k3
  unfold Col.V colV
  generalize swpP x row = p at *
  generalize getE x row = er at *
  obtain ⟨xW, xR, xA, xn, xc, xl⟩ := x
  simp only at *
  clear hW0 hsz hx k0 k1 k3
  go_enter Try.func86, Try.ntmps86
  go_upto_region 1 with fail
  rw [← HW.out]
  go_wp2_with (first
    | (go_at_call 119; ((with_reducible refine cd.mono ?_); rintro e w5 ⟨x', rfl, hp, hf, hb5⟩; obtain ⟨xW', xR', xA', xn', xc', xl'⟩ := x'; have hk := HK3.out.below hb5 (by have := HS.out; omega); obtain ⟨⟨q0, q1, q2⟩, qf⟩ := blk_cells3 hk; have qf0 := qf 0; have qf1 := qf 1; have qf2 := qf 2; have HF := Lib.hid hf; have HP := Lib.hid hp; have HK := Lib.hid hk; unfold Col.V colV; (try simp only); clear hf hp hk qf))
    | fail)
  refine bodyPost_ret (v := .tuple #[.agg #[.int .i64 xW', .int .i64 xR', .slice xA' xn' xc'], .int .i64 er]) (by simp [results, Try.results86, go_sem, *]) rfl ?_
  exact ⟨⟨xW', xR', xA', xn', xc', xl'⟩, rfl, HP.out, fresh_set3 (colFresh_base HF.out hB.size) HK.out (by decide) _ _ _, below_set3 (hB.trans (hb5.mono hB.size)) (by omega)⟩
end Go.Proofs.Ytbcbknajhdaneaa
