/- What is proved: the law's TraitTurn returns true. -/
import Derived.Test.YtibjelonabhcmaaDoorTs3
import Derived.Test.YtibjelonabhcmaaDoorTs5
namespace Go.Proofs.YtibjelonabhcmaaDoor
open Go.RowKit
set_option linter.unusedVariables false
set_option linter.unusedSimpArgs false
theorem new5 {w W0 : World} {t : TypeId} {v0 v1 v2 v3 v4 : Value} (h : W0 = w.alloc (.cells #[v0, v1, v2, v3, v4] t)) :
    Below w.heap.size w W0 ∧ w.heap.size < W0.heap.size ∧ W0.cell? ⟨w.heap.size, 0, none⟩ = some v0 ∧ W0.cell? ⟨w.heap.size, 1, none⟩ = some v1 ∧ W0.cell? ⟨w.heap.size, 2, none⟩ = some v2 ∧ W0.cell? ⟨w.heap.size, 3, none⟩ = some v3 ∧ W0.cell? ⟨w.heap.size, 4, none⟩ = some v4 := by
  subst h
  have hb := Blk.new w t #[v0, v1, v2, v3, v4]
  exact ⟨(Below.refl _ _).alloc (Nat.le_refl _) _, hb.lt, hb.cell 0, hb.cell 1, hb.cell 2, hb.cell 3, hb.cell 4⟩
set_option maxRecDepth 100000 in
set_option maxHeartbeats 8000000 in
theorem turn_yes (A : Option Addr) (n c : Nat) (l : List Rel) (r : Rel) (w : World) (hE : Env w) (hR : Reads w w.heap.size 6 A n (rels l)) (hnc : n ≤ c) (hn : c ≤ 281474976710656) (hx : withE (l.take 201) r = 0) :
    Calls Tryd.prog 6 #[.slice A n c, relV r] w fun e w' => e = .returned (.bool true) ∧ Below w.heap.size w w' := by
  obtain ⟨L, hL⟩ : ∃ L, l.take 201 = L := ⟨_, rfl⟩
  obtain ⟨m, hm⟩ : ∃ m, L.length = m := ⟨_, rfl⟩
  have hm2 : m ≤ 201 := by rw [← hm, ← hL, List.length_take]; omega
  rw [hL] at hx
  obtain ⟨M, hM⟩ : ∃ M, withL L r = M := ⟨_, rfl⟩
  have hT := turn_of hm hx
  rw [← (with_zero hx).2.2.2.2.2, hM] at hT
  obtain ⟨W0, hW0⟩ : ∃ W0, W0 = w.alloc (Obj.cells #[.int .i64 r.i, .bool r.a, .bool r.e, .int .i64 r.w, .int .i64 r.t, .int .i64 r.r] 31) := ⟨_, rfl⟩
  obtain ⟨hB, hsz, c0, c1, c2, c3, c4, c5⟩ := new6 hW0
  have h0 := Below.refl W0.heap.size W0
  have HX := Lib.hid (fun (W : World) (h : Below W0.heap.size W0 W) => (⟨Nat.lt_of_lt_of_le hsz h.size, cell_below' h c0 hsz, cell_below' h c1 hsz, cell_below' h c2 hsz, cell_below' h c3 hsz, cell_below' h c4 hsz, cell_below' h c5 hsz⟩ : (w.heap.size < W.heap.size ∧ W.cell? ⟨w.heap.size, 0, none⟩ = some (.int .i64 r.i) ∧ W.cell? ⟨w.heap.size, 1, none⟩ = some (.bool r.a) ∧ W.cell? ⟨w.heap.size, 2, none⟩ = some (.bool r.e) ∧ W.cell? ⟨w.heap.size, 3, none⟩ = some (.int .i64 r.w) ∧ W.cell? ⟨w.heap.size, 4, none⟩ = some (.int .i64 r.t) ∧ W.cell? ⟨w.heap.size, 5, none⟩ = some (.int .i64 r.r))))
  have H8 := Lib.hid (fun (W V : World) (h : Below (W.alloc (Obj.cells #[.bool r.a, .bool r.e, .int .i64 r.w, .int .i64 r.t, .int .i64 r.r] 29)).heap.size (W.alloc (Obj.cells #[.bool r.a, .bool r.e, .int .i64 r.w, .int .i64 r.t, .int .i64 r.r] 29)) V) =>
    (show W.heap.size < V.heap.size ∧ V.cell? ⟨W.heap.size, 0, none⟩ = some (.bool r.a) ∧ V.cell? ⟨W.heap.size, 1, none⟩ = some (.bool r.e) ∧ V.cell? ⟨W.heap.size, 2, none⟩ = some (.int .i64 r.w) ∧ V.cell? ⟨W.heap.size, 3, none⟩ = some (.int .i64 r.t) ∧ V.cell? ⟨W.heap.size, 4, none⟩ = some (.int .i64 r.r) from by
      obtain ⟨_, hs, q0, q1, q2, q3, q4⟩ := new5 (w := W) (t := 29) (v0 := .bool r.a) (v1 := .bool r.e) (v2 := .int .i64 r.w) (v3 := .int .i64 r.t) (v4 := .int .i64 r.r) rfl
      exact ⟨Nat.lt_of_lt_of_le hs h.size, cell_below' h q0 hs, cell_below' h q1 hs, cell_below' h q2 hs, cell_below' h q3 hs, cell_below' h q4 hs⟩))
  have cw := fun (W : World) (h : Below w.heap.size w W) => wakes_any W (hE.below h)
  have cf := fun (W : World) (h : Below w.heap.size w W) => few_c (w := W) (c := c) ((hR.below h).more h.size) hnc hn hL hm
  have ci := fun (W : World) (h : Below w.heap.size w W) (A : Option Addr) (c : Nat) (hR : Reads W W.heap.size 6 A m (rels L)) (hc : m ≤ c ∧ c ≤ 9223372036854775807) =>
    (with_any A m c L r W (hE.below h) hR hc.1 (by omega) hc.2).mono (fun e w' h => OwnE.row (n := m + 1) h (by rw [hM]; exact hT.len))
  rw [hx, hM] at ci
  have cm := fun (W : World) (h : Below w.heap.size w W) (A : Option Addr) (c : Nat) (hR : Reads W W.heap.size 6 A (m + 1) (rels M)) => tfind_any A (m + 1) c M r.i W (hE.below h) hR (by omega)
  have cl := fun (W : World) (h : Below w.heap.size w W) (A : Option Addr) (c : Nat) (hR : Reads W W.heap.size 6 A m (rels L)) => tfind_any A m c L r.i W (hE.below h) hR (by omega)
  have co := fun (W : World) (h : Below w.heap.size w W) (A : Option Addr) (c : Nat) (hR : Reads W W.heap.size 6 A (m + 1) (rels M)) =>
    (without_any A (m + 1) c M r.i W (hE.below h) hR (by omega)).mono (fun e w' h => OwnE.row (n := m) h (by rw [hT.wl]; exact hm))
  have cq := fun (W : World) (A : Option Addr) (c : Nat) (hR : Reads W W.heap.size 6 A m (rels L)) (A2 : Option Addr) (c2 : Nat) (hR2 : Reads W W.heap.size 6 A2 m (rels L)) => equal_rel A m c L A2 m c2 L W hR hR2 (by omega) (by omega)
  have cc := fun (W : World) (h : Below w.heap.size w W) (A : Option Addr) (c : Nat) (hR : Reads W W.heap.size 6 A (m + 1) (rels M)) => check_any A (m + 1) c M W (hE.below h) hR (by omega)
  rw [hT.f1] at cm
  rw [hT.f2] at cl
  rw [hT.we, hT.wl] at co
  rw [relseq_self] at cq
  rw [hT.ck] at cc
  unfold trOf trV at cm cl
  dsimp only [Option.isSome] at cm cl
  have hN := fun w => run_eql_tr w r r
  rw [treq_self] at hN
  unfold relV at ci ⊢
  clear hE hR hx c0 c1 c2 c3 c4 c5 hT hM hL hm
  subst hW0
  go_enter Tryd.func6, Tryd.ntmps6
  go_wp2_with (first
    | (go_at_call 8; ((with_reducible refine (cw _ hB).mono ?_); rintro e w1 ⟨rfl, hb1⟩; have hB := hB.trans (hb1.mono hB.size); have h0 := h0.trans (hb1.mono h0.size)))
    | (go_at_call 9; ((with_reducible refine (cf _ hB).mono ?_); rintro e w2 ⟨A2, c2, rfl, HR, hc2, hb2⟩; have hB := hB.trans (hb2.mono hB.size); have h0 := h0.trans (hb2.mono h0.size); obtain ⟨x8, x0, x1, x2, x3, x4, x5⟩ := HX.out _ h0; have h2 := Below.refl w2.heap.size w2))
    | (go_at_call 23; ((with_reducible refine (ci _ hB _ _ HR hc2).mono ?_); rintro e w3 ⟨A3, c3, rfl, HM, hb3⟩; have hB := hB.trans (hb3.mono hB.size); have h0 := h0.trans (hb3.mono h0.size); have h2 := h2.trans (hb3.mono h2.size); obtain ⟨x8, x0, x1, x2, x3, x4, x5⟩ := HX.out _ h0; have h3 := Below.refl w3.heap.size w3))
    | (go_at_call 27; first
        | ((with_reducible refine (cm _ hB _ _ ((HM.below h3).more h3.size)).mono ?_); rintro e w4 ⟨rfl, hb4⟩; have hB := hB.trans (hb4.mono hB.size); have h0 := h0.trans (hb4.mono h0.size); have h2 := h2.trans (hb4.mono h2.size); have h3 := h3.trans (hb4.mono h3.size); obtain ⟨x8, x0, x1, x2, x3, x4, x5⟩ := HX.out _ h0;
           have hB := hB.alloc hB.size (Obj.cells #[.bool r.a, .bool r.e, .int .i64 r.w, .int .i64 r.t, .int .i64 r.r] 29); have h0 := h0.alloc h0.size (Obj.cells #[.bool r.a, .bool r.e, .int .i64 r.w, .int .i64 r.t, .int .i64 r.r] 29); have h2 := h2.alloc h2.size (Obj.cells #[.bool r.a, .bool r.e, .int .i64 r.w, .int .i64 r.t, .int .i64 r.r] 29); have h3 := h3.alloc h3.size (Obj.cells #[.bool r.a, .bool r.e, .int .i64 r.w, .int .i64 r.t, .int .i64 r.r] 29); have h8 := Below.refl (w4.alloc (Obj.cells #[.bool r.a, .bool r.e, .int .i64 r.w, .int .i64 r.t, .int .i64 r.r] 29)).heap.size (w4.alloc (Obj.cells #[.bool r.a, .bool r.e, .int .i64 r.w, .int .i64 r.t, .int .i64 r.r] 29)))
        | ((with_reducible refine (cl _ hB _ _ ((HR.below h2).more h2.size)).mono ?_); rintro e w5 ⟨rfl, hb5⟩; have hB := hB.trans (hb5.mono hB.size); have h0 := h0.trans (hb5.mono h0.size); have h2 := h2.trans (hb5.mono h2.size); have h3 := h3.trans (hb5.mono h3.size); have h8 := h8.trans (hb5.mono h8.size); obtain ⟨x8, x0, x1, x2, x3, x4, x5⟩ := HX.out _ h0;
           have hB := hB.alloc hB.size (Obj.cells #[.bool false, .bool false, .int .i64 0, .int .i64 0, .int .i64 0] 29); have h0 := h0.alloc h0.size (Obj.cells #[.bool false, .bool false, .int .i64 0, .int .i64 0, .int .i64 0] 29); have h2 := h2.alloc h2.size (Obj.cells #[.bool false, .bool false, .int .i64 0, .int .i64 0, .int .i64 0] 29); have h3 := h3.alloc h3.size (Obj.cells #[.bool false, .bool false, .int .i64 0, .int .i64 0, .int .i64 0] 29); have h8 := h8.alloc h8.size (Obj.cells #[.bool false, .bool false, .int .i64 0, .int .i64 0, .int .i64 0] 29)))
    | (go_at_call 28; ((with_reducible refine (co _ hB _ _ ((HM.below h3).more h3.size)).mono ?_); rintro e w6 ⟨A6, c6, rfl, HB, hb6⟩; have hB := hB.trans (hb6.mono hB.size); have h0 := h0.trans (hb6.mono h0.size); have h2 := h2.trans (hb6.mono h2.size); have h3 := h3.trans (hb6.mono h3.size); have h8 := h8.trans (hb6.mono h8.size); obtain ⟨x8, x0, x1, x2, x3, x4, x5⟩ := HX.out _ h0; obtain ⟨y8, y0, y1, y2, y3, y4⟩ := H8.out _ _ h8))
    | (go_at_call 15; ((with_reducible refine (cq _ _ _ HB _ _ ((HR.below h2).more h2.size)).mono ?_); rintro e w7 ⟨rfl, hb7⟩; have hB := hB.trans (hb7.mono hB.size); have h3 := h3.trans (hb7.mono h3.size)))
    | (go_at_call 10; ((with_reducible refine (cc _ hB _ _ ((HM.below h3).more h3.size)).mono ?_); rintro e w8 ⟨rfl, hb8⟩; have hB := hB.trans (hb8.mono hB.size)))
    | fail)
  go_ret
  exact ⟨rfl, hB⟩
theorem turn_row (A : Option Addr) (n c : Nat) (l : List Rel) (hnc : n ≤ c) (hn : c ≤ 281474976710656) {Q : Prop} (_ : Q) (r : Rel) (_ : RelWf r) (w : World) (hE : Env w) (hR : Reads w w.heap.size 6 A n (rels l)) :
    Calls Tryd.prog 6 #[.slice A n c, relV r] w fun e w' => e = .returned (.bool true) ∧ Below w.heap.size w w' := by
  by_cases h : withE (l.take 201) r = 0
  · exact turn_yes A n c l r w hE hR hnc hn h
  · exact turn_no A n c l r w hE hR hnc hn h
end Go.Proofs.YtibjelonabhcmaaDoor
