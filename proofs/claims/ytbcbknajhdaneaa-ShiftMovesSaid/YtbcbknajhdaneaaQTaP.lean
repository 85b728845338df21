/- What is proved: the document's Same of tables. contracts of cmp.Less and slices.BinarySearch at ids. slices.Index at ids, with the place. -/
import Derived.Test.YtbcbknajhdaneaaQTaM
import Derived.Test.YtbcbknajhdaneaaQLater
namespace Go.Proofs.Ytbcbknajhdaneaa
open Go.RowKit
set_option linter.unusedVariables false
set_option linter.unusedSimpArgs false
set_option maxRecDepth 100000 in
set_option maxHeartbeats 8000000 in
theorem rtsame_any (a b : Tab) (w : World) (ha : TabOk w w.heap.size a) (hb : TabOk w w.heap.size b) (sa : TabSm a) (sb : TabSm b) :
    Calls Try.prog 22 #[a.V, b.V] w fun e w' => e = .returned (.bool (tabQ a b)) ∧ Below w.heap.size w w' := by
  have c1 := fun (W : World) (h : Below w.heap.size w W) => rsame_d a.TA a.Tn a.Tc a.ty b.TA b.Tn b.Tc b.ty W ((ha.ty.below h).more h.size) ((hb.ty.below h).more h.size) sa.1 sb.1
  have c3 := fun (W : World) (h : Below w.heap.size w W) => rsame_d a.EA a.En a.Ec a.es b.EA b.En b.Ec b.es W ((ha.es.below h).more h.size) ((hb.es.below h).more h.size) sa.2.2.1 sb.2.2.1
  obtain ⟨-, l2, -⟩ := ha.len
  obtain ⟨-, m2, -⟩ := hb.len
  unfold tabQ Tab.V
  generalize (a.ty == b.ty) = b1 at c1 ⊢
  generalize (a.es == b.es) = b3 at c3 ⊢
  obtain ⟨TA, Tn, Tc, ty, CA, Cn, Cc, F, EA, En, Ec, es⟩ := a
  obtain ⟨TA', Tn', Tc', ty', CA', Cn', Cc', F', EA', En', Ec', es'⟩ := b
  simp only at c1 c3 l2 m2 ⊢
  have HA := Lib.hid ha
  have HB := Lib.hid hb
  have SA := Lib.hid sa
  have SB := Lib.hid sb
  have L2 := Lib.hid l2
  have M2 := Lib.hid m2
  have hB := ((Below.refl w.heap.size w).alloc (Nat.le_refl _) (.cells #[.slice TA Tn Tc, .slice CA Cn Cc, .slice EA En Ec] 25)).alloc (by simp) (.cells #[.slice TA' Tn' Tc', .slice CA' Cn' Cc', .slice EA' En' Ec'] 25)
  have x1 := new_cell w 25 #[.slice TA Tn Tc, .slice CA Cn Cc, .slice EA En Ec] (k := 1) rfl
  have x2 := new_cell w 25 #[.slice TA Tn Tc, .slice CA Cn Cc, .slice EA En Ec] (k := 2) rfl
  have y1 := new_cell (w.alloc (.cells #[.slice TA Tn Tc, .slice CA Cn Cc, .slice EA En Ec] 25)) 25 #[.slice TA' Tn' Tc', .slice CA' Cn' Cc', .slice EA' En' Ec'] (k := 1) rfl
  have y2 := new_cell (w.alloc (.cells #[.slice TA Tn Tc, .slice CA Cn Cc, .slice EA En Ec] 25)) 25 #[.slice TA' Tn' Tc', .slice CA' Cn' Cc', .slice EA' En' Ec'] (k := 2) rfl
  obtain ⟨W0, hW0⟩ : ∃ W0, (w.alloc (.cells #[.slice TA Tn Tc, .slice CA Cn Cc, .slice EA En Ec] 25)).alloc (.cells #[.slice TA' Tn' Tc', .slice CA' Cn' Cc', .slice EA' En' Ec'] 25) = W0 := ⟨_, rfl⟩
  have z1 := (World.cell?_alloc_lt (w.alloc (.cells #[.slice TA Tn Tc, .slice CA Cn Cc, .slice EA En Ec] 25)) (.cells #[.slice TA' Tn' Tc', .slice CA' Cn' Cc', .slice EA' En' Ec'] 25) ⟨w.heap.size, 1, none⟩ (by simp)).trans x1
  have z2 := (World.cell?_alloc_lt (w.alloc (.cells #[.slice TA Tn Tc, .slice CA Cn Cc, .slice EA En Ec] 25)) (.cells #[.slice TA' Tn' Tc', .slice CA' Cn' Cc', .slice EA' En' Ec'] 25) ⟨w.heap.size, 2, none⟩ (by simp)).trans x2
  have hsz : W0.heap.size = w.heap.size + 1 + 1 := by rw [← hW0]; simp
  have hsz1 : (w.alloc (.cells #[.slice TA Tn Tc, .slice CA Cn Cc, .slice EA En Ec] 25)).heap.size = w.heap.size + 1 := by simp
  rw [hsz1] at y1 y2
  rw [hW0] at z1 z2 y1 y2 hB
  have Z1 := fun (W : World) (h : Below W0.heap.size W0 W) => cell_below' h z1 (by omega)
  have Z2 := fun (W : World) (h : Below W0.heap.size W0 W) => cell_below' h z2 (by omega)
  have Y1 := fun (W : World) (h : Below W0.heap.size W0 W) => cell_below' h y1 (by omega)
  have Y2 := fun (W : World) (h : Below W0.heap.size W0 W) => cell_below' h y2 (by omega)
  have hlt0 := fun (W : World) (h : Below W0.heap.size W0 W) => (show w.heap.size + 1 < W.heap.size from by have := h.size; omega)
  have h0 := Below.refl W0.heap.size W0
  have hB0 := hB
  clear ha hb sa sb x1 x2 y1 y2 z1 z2 hsz hsz1 l2 m2
  subst hW0
  cases b1
  · clear hlt0 hB0
    go_enter Try.func22, Try.ntmps22
    go_wp2_with (first
      | (go_at_call 76; ((with_reducible refine (c1 _ hB).mono ?_); rintro e w1 ⟨rfl, hb1⟩; have hB := hB.trans (hb1.mono hB.size)))
      | fail)
    go_ret
    exact ⟨rfl, hB⟩
  · cases b3
    · clear hlt0 hB0
      go_enter Try.func22, Try.ntmps22
      go_wp2_with (first
        | (go_at_call 76; first
           | ((with_reducible refine (c1 _ hB).mono ?_); rintro e w1 ⟨rfl, hb1⟩; have hB := hB.trans (hb1.mono hB.size); have h0 := h0.trans (hb1.mono h0.size); have q1 := Z1 _ h0; have q2 := Z2 _ h0; have r1 := Y1 _ h0; have r2 := Y2 _ h0)
           | ((with_reducible refine (c3 _ hB).mono ?_); rintro e w3 ⟨rfl, hb3⟩; have hB := hB.trans (hb3.mono hB.size)))
        | fail)
      go_ret
      exact ⟨by simp, hB⟩
    · by_cases hnn : Cn = Cn'
      · subst hnn
        have d3 : ((Cn : Int) != (Cn : Int)) = false := by simp
        go_enter Try.func22, Try.ntmps22
        go_wp2_with (first
          | (go_at_call 76; first
             | ((with_reducible refine (c1 _ hB).mono ?_); rintro e w1 ⟨rfl, hb1⟩; have hB := hB.trans (hb1.mono hB.size); have h0 := h0.trans (hb1.mono h0.size); have q1 := Z1 _ h0; have q2 := Z2 _ h0; have r1 := Y1 _ h0; have r2 := Y2 _ h0)
             | ((with_reducible refine (c3 _ hB).mono ?_); rintro e w3 ⟨rfl, hb3⟩; have hB := hB.trans (hb3.mono hB.size); have h0 := h0.trans (hb3.mono h0.size); have q1 := Z1 _ h0; have r1 := Y1 _ h0))
          | fail)
        go_loopw [32] (fun i wr => ∃ k : Nat, k ≤ Cn ∧ i = .int .i64 k ∧ colsQ F F' = colsQ (F.drop k) (F'.drop k) ∧ Below ((w.alloc (.cells #[.slice TA Tn Tc, .slice CA Cn Cc, .slice EA En Ec] 25)).alloc (.cells #[.slice TA' Tn' Tc', .slice CA' Cn Cc', .slice EA' En' Ec'] 25)).heap.size ((w.alloc (.cells #[.slice TA Tn Tc, .slice CA Cn Cc, .slice EA En Ec] 25)).alloc (.cells #[.slice TA' Tn' Tc', .slice CA' Cn Cc', .slice EA' En' Ec'] 25)) wr)
          (fun i _ => Cn - (intOf i).toNat)
        case atStart => exact ⟨0, Nat.zero_le _, rfl, rfl, h0⟩
        case round =>
          obtain ⟨k, hk, rfl, hq, hr0⟩ := hrel
          have hBr := hB0.trans (hr0.mono hB0.size)
          have hlt1 := hlt0 _ hr0
          have qr := Z1 _ hr0
          have rr := Y1 _ hr0
          have hcn : Cn ≤ 281474976710656 := SA.out.2.1
          by_cases hlt : k < Cn
          · have e1 := List.getElem?_eq_getElem (l := F) (i := k) (by have := L2.out; omega)
            have e2 := List.getElem?_eq_getElem (l := F') (i := k) (by have := M2.out; omega)
            generalize F[k]'(by have := L2.out; omega) = x at e1
            generalize F'[k]'(by have := M2.out; omega) = y at e2
            rw [drop_cons e1, drop_cons e2] at hq
            obtain ⟨b, off, rfl, hbl, g⟩ := cols_cells HA.out.cs e1
            obtain ⟨b2, off2, rfl, hbl2, f⟩ := cols_cells HB.out.cs e2
            obtain ⟨g0, g1, g2⟩ := g.below hBr hbl
            obtain ⟨f0, f1, f2⟩ := f.below hBr hbl2
            have hbl' := Nat.lt_of_lt_of_le hbl hBr.size
            have hbl2' := Nat.lt_of_lt_of_le hbl2 hBr.size
            have hx := HA.out.csok x (List.mem_of_getElem? e1)
            have hy := HB.out.csok y (List.mem_of_getElem? e2)
            have hxn := SA.out.2.2.2 x (List.mem_of_getElem? e1)
            have hyn := SB.out.2.2.2 y (List.mem_of_getElem? e2)
            have cq := fun p : Later wr => rcsame_any x.W x.R x.A x.n x.c x.l y.W y.R y.A y.n y.c y.l p.w ((hx.1.below (hBr.trans (p.h.mono hBr.size))).more (Nat.le_trans hBr.size p.h.size)) ((hy.1.below (hBr.trans (p.h.mono hBr.size))).more (Nat.le_trans hBr.size p.h.size)) hxn hyn
            have hs := (show colsQ F F' = (colQ x y && colsQ (F.drop (k + 1)) (F'.drop (k + 1))) from hq)
            unfold colQ at hs
            unfold colV at cq
            generalize colS x.W x.R x.l y.W y.R y.l = bq at cq hs
            obtain ⟨xW, xR, xA, xn, xc, xl⟩ := x
            obtain ⟨yW, yR, yA, yn, yc, yl⟩ := y
            simp only at g0 g1 g2 f0 f1 f2 cq
            have p0 := fun p : Later wr => p.cell g0 hbl'
            have p1 := fun p : Later wr => p.cell g1 hbl'
            have p2 := fun p : Later wr => p.cell g2 hbl'
            have p3 := fun p : Later wr => p.cell f0 hbl2'
            have p4 := fun p : Later wr => p.cell f1 hbl2'
            have p5 := fun p : Later wr => p.cell f2 hbl2'
            have p6 := fun p : Later wr => p.cell qr (by omega)
            have p7 := fun p : Later wr => p.cell rr (by omega)
            have HS := Lib.hid hs
            have HBB := Lib.hid hBr
            have H0 := Lib.hid hr0
            clear hq hs g f e1 e2 hx hy hxn hyn g0 g1 g2 f0 f1 f2 hbl hbl2 hbl' hbl2' qr rr hBr hr0 hlt1
            cases bq
            · go_wp2_with fail
              refine wp_later (by kernel_rfl) (by kernel_rfl) ?_
              repeat (go_big_quiet_step (first | (go_at_call 77; exact later_below (cq _)) | fail))
              refine wpQuiet_nil ?_
              rintro _ ⟨p, rfl⟩
              have hp := p.h
              go_wp2_with fail
              try rw [Exit.noGoto_ret]
              go_ret
              exact ⟨by rw [HS.out]; rfl, HBB.out.trans (hp.mono HBB.out.size)⟩
            · go_wp2_with fail
              refine wp_later (by kernel_rfl) (by kernel_rfl) ?_
              repeat (go_big_quiet_step (first | (go_at_call 77; exact later_below (cq _)) | fail))
              refine wpQuiet_nil ?_
              rintro _ ⟨p, rfl⟩
              have hp := p.h
              go_wp2_with fail
              go_roundw
              case rel => exact ⟨k + 1, by omega, by go_num, by rw [HS.out, Bool.true_and], H0.out.trans (hp.mono H0.out.size)⟩
              case measure => simp [intOf]; omega
          · rw [List.drop_of_length_le (by have := L2.out; omega), List.drop_of_length_le (by have := M2.out; omega)] at hq
            have hf := Lib.hid (hq.trans rfl)
            clear hq
            go_wp2_with fail
            try rw [Exit.noGoto_ret]
            go_ret
            exact ⟨by rw [hf.out]; rfl, hBr⟩
      · have hf := Lib.hid (colsQ_len F F' (by have := L2.out; have := M2.out; omega))
        have hne : ((Cn : Int) != (Cn' : Int)) = true := by simp; omega
        clear hnn hlt0 hB0
        go_enter Try.func22, Try.ntmps22
        go_wp2_with (first
          | (go_at_call 76; first
             | ((with_reducible refine (c1 _ hB).mono ?_); rintro e w1 ⟨rfl, hb1⟩; have hB := hB.trans (hb1.mono hB.size); have h0 := h0.trans (hb1.mono h0.size); have q1 := Z1 _ h0; have q2 := Z2 _ h0; have r1 := Y1 _ h0; have r2 := Y2 _ h0)
             | ((with_reducible refine (c3 _ hB).mono ?_); rintro e w3 ⟨rfl, hb3⟩; have hB := hB.trans (hb3.mono hB.size); have h0 := h0.trans (hb3.mono h0.size); have q1 := Z1 _ h0; have r1 := Y1 _ h0))
          | fail)
        go_ret
        exact ⟨by rw [hf.out]; rfl, hB⟩
end Go.Proofs.Ytbcbknajhdaneaa
namespace Go.Proofs.Ytbcbknajhdaneaa
open Go.RowKit
set_option linter.unusedVariables false
set_option linter.unusedSimpArgs false
def ibGo (l : List Int) (n : Int) : Nat → Nat → Nat → Nat
  | 0, lo, _ => lo
  | f + 1, lo, hi => if lo < hi then (if idAt l ((lo + hi) / 2) < n then ibGo l n f ((lo + hi) / 2 + 1) hi else ibGo l n f lo ((lo + hi) / 2)) else lo
def ibAt (l : List Int) (n : Int) : Nat := ibGo l n (l.length + 1) 0 l.length
theorem ibGo_step (l : List Int) (n : Int) (f lo hi : Nat) (h : lo < hi) : ibGo l n (f + 1) lo hi = if idAt l ((lo + hi) / 2) < n then ibGo l n f ((lo + hi) / 2 + 1) hi else ibGo l n f lo ((lo + hi) / 2) := by
  show (if lo < hi then _ else lo) = _
  rw [if_pos h]
theorem ibGo_end (l : List Int) (n : Int) (f lo hi : Nat) (h : ¬ lo < hi) : ibGo l n f lo hi = lo := by
  cases f with
  | zero => rfl
  | succ f => show (if lo < hi then _ else lo) = _; rw [if_neg h]
theorem idAt_some {l : List Int} {k : Nat} {x : Int} (h : l[k]? = some x) : idAt l k = x := by unfold idAt; rw [h]
end Go.Proofs.Ytbcbknajhdaneaa
namespace Go.Proofs.Ytbcbknajhdaneaa
open Go.RowKit
set_option linter.unusedVariables false
set_option linter.unusedSimpArgs false
/-- the place of a number in a row; -1: it is not there -/
def ixGo (v : Int) : List Int → Nat → Int
  | [], _ => -1
  | x :: l, k => if v == x then (k : Int) else ixGo v l (k + 1)
def ixD (l : List Int) (v : Int) : Int := ixGo v l 0
theorem index_d (A : Option Addr) (n c : Nat) (l : List Int) (v : Int) (w : World) (hR : Reads w w.heap.size 1 A n (ids l)) (hn : n ≤ 281474976710656) :
    Calls Try.prog 27 #[.slice A n c, .int .u64 v] w fun e w' => e = .returned (.int .i64 (ixD l v)) ∧ w = w' := by
  have hl : l.length = n := by have := hR.1; rw [ids_len] at this; omega
  go_enter Try.func27, Try.ntmps27
  go_wp2_with fail
  go_loopw [8] (fun i wr => ∃ k : Nat, k ≤ n ∧ i = .int .i64 k ∧ ixD l v = ixGo v (l.drop k) k ∧ w = wr)
    (fun i _ => n - (intOf i).toNat)
  case atStart => exact ⟨0, Nat.zero_le _, rfl, rfl, rfl⟩
  case round =>
    obtain ⟨k, hk, rfl, hq, rfl⟩ := hrel
    by_cases hlt : k < n
    · have e1 := List.getElem?_eq_getElem (l := l) (i := k) (by omega)
      generalize l[k]'(by omega) = x at e1
      rw [drop_cons e1] at hq
      obtain ⟨b, off, rfl, hbl, g⟩ := ids_cell hR e1
      have i1 : (k : Int) < (n : Int) := by omega
      have hq2 : ixD l v = if v == x then (k : Int) else ixGo v (l.drop (k + 1)) (k + 1) := hq
      cases hv : (v == x)
      · rw [hv] at hq2
        have HQ := Lib.hid hq2
        clear hq hq2 e1 hR
        go_wp2_with fail
        go_roundw
        case rel => exact ⟨k + 1, by omega, by go_num, HQ.out, by trivial⟩
        case measure => simp [intOf]; omega
      · rw [hv] at hq2
        have HQ := Lib.hid hq2
        clear hq hq2 e1 hR
        go_wp2_with fail
        try rw [Exit.noGoto_ret]
        go_ret
        exact ⟨by rw [HQ.out]; rfl, rfl⟩
    · rw [List.drop_of_length_le (by omega)] at hq
      have HQ := Lib.hid hq
      clear hq hR
      go_wp2_with fail
      try rw [Exit.noGoto_ret]
      go_ret
      exact ⟨by rw [HQ.out]; rfl, rfl⟩
end Go.Proofs.Ytbcbknajhdaneaa
