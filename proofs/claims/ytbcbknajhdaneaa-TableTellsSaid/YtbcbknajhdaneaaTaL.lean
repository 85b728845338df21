/- What is proved: slices.EqualFunc at columns, with column.Same. -/
import Derived.Test.YtbcbknajhdaneaaTaK
namespace Go.Proofs.Ytbcbknajhdaneaa
open Go.RowKit
set_option linter.unusedVariables false
set_option linter.unusedSimpArgs false
def colQ (x y : Col) : Bool := colS x.W x.R x.l y.W y.R y.l
def colsQ : List Col → List Col → Bool
  | [], [] => true
  | x :: l, y :: m => colQ x y && colsQ l m
  | _, _ => false
theorem colsQ_len : ∀ (l m : List Col), l.length ≠ m.length → colsQ l m = false
  | [], [], h => absurd rfl h
  | [], y :: m, _ => rfl
  | x :: l, [], _ => rfl
  | x :: l, y :: m, h => by
    show (colQ x y && colsQ l m) = false
    rw [colsQ_len l m (fun e => h (by simp [e])), Bool.and_false]
set_option maxRecDepth 100000 in
set_option maxHeartbeats 4000000 in
theorem ceqf_any (A : Option Addr) (n c : Nat) (F : List Col) (A2 : Option Addr) (n2 c2 : Nat) (G : List Col) (w : World) (hR : Reads w w.heap.size 3 A n (cols F)) (hR2 : Reads w w.heap.size 3 A2 n2 (cols G))
    (hF : ∀ x ∈ F, ColOk w w.heap.size x ∧ x.n ≤ 281474976710656) (hG : ∀ x ∈ G, ColOk w w.heap.size x ∧ x.n ≤ 281474976710656) (hn : n ≤ 281474976710656) (hn2 : n2 ≤ 281474976710656) :
    Calls Try.prog 89 #[.slice A n c, .slice A2 n2 c2, .func (.func 90) #[] #[]] w fun e w' => e = .returned (.bool (colsQ F G)) ∧ Below w.heap.size w w' := by
  have hl : F.length = n := by have := hR.1; rw [cols_len] at this; omega
  have hl2 : G.length = n2 := by have := hR2.1; rw [cols_len] at this; omega
  by_cases hnn : n = n2
  · subst hnn
    have d3 : ((n : Int) != (n : Int)) = false := by simp
    go_enter Try.func89, Try.ntmps89
    go_wp2_with fail
    go_loopw [17] (fun i wr => ∃ k : Nat, k ≤ n ∧ i = .int .i64 k ∧ colsQ F G = colsQ (F.drop k) (G.drop k) ∧ Below w.heap.size w wr)
      (fun i _ => n - (intOf i).toNat)
    case atStart => exact ⟨0, Nat.zero_le _, rfl, rfl, Below.refl _ _⟩
    case round =>
      obtain ⟨k, hk, rfl, hq, hb⟩ := hrel
      by_cases hlt : k < n
      · have e1 := List.getElem?_eq_getElem (l := F) (i := k) (by omega)
        have e2 := List.getElem?_eq_getElem (l := G) (i := k) (by omega)
        generalize F[k]'(by omega) = x at e1
        generalize G[k]'(by omega) = y at e2
        rw [drop_cons e1, drop_cons e2] at hq
        obtain ⟨b, off, rfl, hbl, g⟩ := cols_cells hR e1
        obtain ⟨b2, off2, rfl, hbl2, f⟩ := cols_cells hR2 e2
        obtain ⟨g0, g1, g2⟩ := g.below hb hbl
        obtain ⟨f0, f1, f2⟩ := f.below hb hbl2
        obtain ⟨f0', f1', f2'⟩ := f.below (hb.alloc hb.size (.cells #[.int .i64 x.W, .int .i64 x.R, .slice x.A x.n x.c] 68)) hbl2
        obtain ⟨hx, hxn⟩ := hF x (List.mem_of_getElem? e1)
        obtain ⟨hy, hyn⟩ := hG y (List.mem_of_getElem? e2)
        have cq := fun (W : World) (h : Below w.heap.size w W) => csame_any x.W x.R x.A x.n x.c x.l y.W y.R y.A y.n y.c y.l W ((hx.1.below h).more h.size) ((hy.1.below h).more h.size) hxn hyn
        have hs := (show colsQ F G = (colQ x y && colsQ (F.drop (k + 1)) (G.drop (k + 1))) from hq)
        unfold colQ at hs
        unfold colV at cq
        generalize colS x.W x.R x.l y.W y.R y.l = bq at cq hs
        obtain ⟨xW, xR, xA, xn, xc, xl⟩ := x
        obtain ⟨yW, yR, yA, yn, yc, yl⟩ := y
        simp only at g0 g1 g2 f0 f1 f2 f0' f1' f2' cq
        have HS := Lib.hid hs
        clear hq hs hR hR2 g f e1 e2 hx hy hxn hyn hF hG
        cases bq
        · go_wp2_with (first
                | (go_at_call 90; ((with_reducible refine (cq _ ((hb.alloc hb.size (.cells #[.int .i64 xW, .int .i64 xR, .slice xA xn xc] 68)).alloc (Nat.le_trans hb.size (by simp)) (.cells #[.int .i64 yW, .int .i64 yR, .slice yA yn yc] 68))).mono ?_); rintro e w2 ⟨rfl, hb2⟩; have hb3 := ((hb.alloc hb.size (.cells #[.int .i64 xW, .int .i64 xR, .slice xA xn xc] 68)).alloc (Nat.le_trans hb.size (by simp)) (.cells #[.int .i64 yW, .int .i64 yR, .slice yA yn yc] 68)).trans (hb2.mono (Nat.le_trans hb.size (by simp; omega)))))
                | fail)
          try rw [Exit.noGoto_ret]
          go_ret
          exact ⟨by rw [HS.out]; rfl, hb3⟩
        · go_wp2_with (first
                | (go_at_call 90; ((with_reducible refine (cq _ ((hb.alloc hb.size (.cells #[.int .i64 xW, .int .i64 xR, .slice xA xn xc] 68)).alloc (Nat.le_trans hb.size (by simp)) (.cells #[.int .i64 yW, .int .i64 yR, .slice yA yn yc] 68))).mono ?_); rintro e w2 ⟨rfl, hb2⟩; have hb3 := ((hb.alloc hb.size (.cells #[.int .i64 xW, .int .i64 xR, .slice xA xn xc] 68)).alloc (Nat.le_trans hb.size (by simp)) (.cells #[.int .i64 yW, .int .i64 yR, .slice yA yn yc] 68)).trans (hb2.mono (Nat.le_trans hb.size (by simp; omega)))))
                | fail)
          go_roundw
          case rel => exact ⟨k + 1, by omega, by go_num, by rw [HS.out, Bool.true_and], hb3⟩
          case measure => simp [intOf]; omega
      · rw [List.drop_of_length_le (by omega), List.drop_of_length_le (by omega)] at hq
        have hf := Lib.hid (hq.trans rfl)
        clear hq hR hR2 hF hG
        go_wp2_with fail
        try rw [Exit.noGoto_ret]
        go_ret
        exact ⟨by rw [hf.out] <;> rfl, hb⟩
  · have hf := Lib.hid (colsQ_len F G (by omega))
    have hne : ((n : Int) != (n2 : Int)) = true := by simp; omega
    clear hR hR2 hF hG hnn
    go_enter Try.func89, Try.ntmps89
    go_wp2_with fail
    go_ret
    exact ⟨by rw [hf.out] <;> rfl, Below.refl _ _⟩
end Go.Proofs.Ytbcbknajhdaneaa
