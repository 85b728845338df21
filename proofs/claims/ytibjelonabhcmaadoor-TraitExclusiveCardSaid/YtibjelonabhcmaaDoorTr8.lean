/- What is proved: the law's TraitMay returns true. -/
import Derived.Test.YtibjelonabhcmaaDoorTr7
namespace Go.Proofs.YtibjelonabhcmaaDoor
open Go.RowKit
set_option linter.unusedVariables false
set_option linter.unusedSimpArgs false
/-- a copy of the first 201 -/
def FewN (L : List Rel) (m : Nat) (w : World) (e : Ending) (w' : World) : Prop := ∃ A c, e = .returned (.slice A m c) ∧ Reads w' w'.heap.size 6 A m (rels L) ∧ Below w.heap.size w w'
theorem few_n {A : Option Addr} {n c : Nat} {l : List Rel} {w : World} (hR : Reads w w.heap.size 6 A n (rels l)) (hnc : n ≤ c) (hn : c ≤ 281474976710656) {L : List Rel} {m : Nat} (hL : l.take 201 = L) (hm : L.length = m) :
    Calls Tryd.prog 9 #[.slice A n c] w (FewN L m w) := by
  have := few_any A n c l w hR hnc hn
  rw [hL] at this
  unfold OwnRow at this
  rw [hm] at this
  exact this
theorem first_eq (A : Option Addr) (c : Nat) (A2 : Option Addr) (c2 : Nat) (w : World) (hR : Reads w w.heap.size 6 A 2 (rels firstL)) (hR2 : Reads w w.heap.size 6 A2 2 (rels firstL)) :
    Calls Tryd.prog 15 #[.slice A 2 c, .slice A2 2 c2] w fun e w' => e = .returned (.bool true) ∧ Below w.heap.size w w' := by
  have := equal_rel A 2 c firstL A2 2 c2 firstL w hR hR2 (by omega) (by omega)
  rw [show relseq firstL firstL = true from by decide +kernel] at this
  exact this
theorem right_cases (L : List Rel) : (right L = true ∧ chkE L = 0) ∨ (right L = false ∧ chkE L = 230) := by
  unfold chkE
  cases right L
  · right; exact ⟨rfl, rfl⟩
  · left; exact ⟨rfl, rfl⟩
theorem first_at0 {w : World} {g : Nat} {t : TypeId} {cur : Array Value} (h : Blk w g t cur) (ht : cur.toList.take (2 * 6) = rels firstL) : w.cell? ⟨g, 0, none⟩ = some (.int .i64 1) := by
  rw [h.cell, ← Array.getElem?_toList]
  have : (cur.toList.take (2 * 6))[0]? = some (.int .i64 1) := by rw [ht]; rfl
  rw [List.getElem?_take] at this
  simpa using this
set_option maxRecDepth 100000 in
set_option maxHeartbeats 8000000 in
theorem may_law (A : Option Addr) (n c : Nat) (l : List Rel) (w : World) (hE : Env w) (hR : Reads w w.heap.size 6 A n (rels l)) (hnc : n ≤ c) (hn : c ≤ 281474976710656) :
    Calls Tryd.prog 3 #[.slice A n c] w fun e w' => e = .returned (.bool true) ∧ Below w.heap.size w w' := by
  obtain ⟨L, hL⟩ : ∃ L, l.take 201 = L := ⟨_, rfl⟩
  obtain ⟨m, hm⟩ : ∃ m, L.length = m := ⟨_, rfl⟩
  have hm2 : m ≤ 201 := by rw [← hm, ← hL, List.length_take]; omega
  have hB := Below.refl w.heap.size w
  have cw := fun (W : World) (h : Below w.heap.size w W) => wakes_any W (hE.below h)
  have cf := fun (W : World) (h : Below w.heap.size w W) => few_n (w := W) (c := c) ((hR.below h).more h.size) hnc hn hL hm
  have cc := fun (W : World) (h : Below w.heap.size w W) (A : Option Addr) (c : Nat) (hR : Reads W W.heap.size 6 A m (rels L)) => check_any A m c L W (hE.below h) hR (by omega)
  have cr := fun (W : World) (A : Option Addr) (c : Nat) (hR : Reads W W.heap.size 6 A m (rels L)) => rright_any A m c L W hR (by omega)
  have cn := Lib.hid (fun (W : World) (h : Below w.heap.size w W) => tnew_own W (hE.below h))
  rcases right_cases L with ⟨k1, k2⟩ | ⟨k1, k2⟩
  all_goals
    rw [k2] at cc
    rw [k1] at cr
    clear hE hR k1 k2
    go_enter Tryd.func3, Tryd.ntmps3
    go_wp2_with (first
      | (go_at_call 8; ((with_reducible refine (cw _ hB).mono ?_); rintro e w1 ⟨rfl, hb1⟩; have hB := hB.trans (hb1.mono hB.size)))
      | (go_at_call 9; ((with_reducible refine (cf _ hB).mono ?_); rintro e w2 ⟨A2, c2, rfl, HR, hb2⟩; have hB := hB.trans (hb2.mono hB.size)))
      | (go_at_call 10; ((with_reducible refine (cc _ hB _ _ HR).mono ?_); rintro e w3 ⟨rfl, hb3⟩; have hB := hB.trans (hb3.mono hB.size); have HR3 := (HR.below hb3).more hb3.size))
      | (go_at_call 11; ((with_reducible refine (cr _ _ _ HR3).mono ?_); rintro e w4 ⟨rfl, hb4⟩; have hB := hB.trans (hb4.mono hB.size); have HR4 := (HR3.below hb4).more hb4.size))
      | fail)
    clear cw cf cc cr
    go_loopw [29] (fun i wr => ∃ k : Nat, k ≤ m ∧ i = .int .i64 k ∧ Below w.heap.size w wr ∧ Below w4.heap.size w4 wr)
      (fun i _ => m - (intOf i).toNat)
    case atStart => exact ⟨0, Nat.zero_le _, rfl, hB, Below.refl _ _⟩
    case round =>
      clear hB
      obtain ⟨k, hk, rfl, hB, hb⟩ := hrel
      by_cases hlt : k < m
      · have e1 := List.getElem?_eq_getElem (l := L) (i := k) (by omega)
        generalize L[k]'(by omega) = x at e1
        obtain ⟨b, off, rfl, hbl, g⟩ := rels_cells HR4 e1
        obtain ⟨g10, g11, g12, g13, g14, g15⟩ := g.below hb hbl
        obtain ⟨hb0, hsz, x0, x1, x2, x3, x4, x5⟩ := new6 (w := wr) (t := 31) (v0 := .int .i64 x.i) (v1 := .bool x.a) (v2 := .bool x.e) (v3 := .int .i64 x.w) (v4 := .int .i64 x.t) (v5 := .int .i64 x.r) rfl
        have y1 := fun p : Later (wr.alloc (Obj.cells #[.int .i64 x.i, .bool x.a, .bool x.e, .int .i64 x.w, .int .i64 x.t, .int .i64 x.r] 31)) => p.cell x1 hsz
        have y2 := fun p : Later (wr.alloc (Obj.cells #[.int .i64 x.i, .bool x.a, .bool x.e, .int .i64 x.w, .int .i64 x.t, .int .i64 x.r] 31)) => p.cell x2 hsz
        have y3 := fun p : Later (wr.alloc (Obj.cells #[.int .i64 x.i, .bool x.a, .bool x.e, .int .i64 x.w, .int .i64 x.t, .int .i64 x.r] 31)) => p.cell x3 hsz
        have y4 := fun p : Later (wr.alloc (Obj.cells #[.int .i64 x.i, .bool x.a, .bool x.e, .int .i64 x.w, .int .i64 x.t, .int .i64 x.r] 31)) => p.cell x4 hsz
        have y5 := fun p : Later (wr.alloc (Obj.cells #[.int .i64 x.i, .bool x.a, .bool x.e, .int .i64 x.w, .int .i64 x.t, .int .i64 x.r] 31)) => p.cell x5 hsz
        have z1 := fun p : Later (wr.alloc (Obj.cells #[.int .i64 x.i, .bool x.a, .bool x.e, .int .i64 x.w, .int .i64 x.t, .int .i64 x.r] 31)) => may_any x.a x.e x.w x.t x.r p.w
        have z2 := fun p : Later (wr.alloc (Obj.cells #[.int .i64 x.i, .bool x.a, .bool x.e, .int .i64 x.w, .int .i64 x.t, .int .i64 x.r] 31)) => rmay_any x.a x.e x.w x.t x.r p.w
        unfold trV at z1 z2
        clear x0 x1 x2 x3 x4 x5 HR HR3 g e1
        have hrest := Lib.hid hB
        have hrest2 := Lib.hid hb
        clear hB hb
        cases ht : decide ((k : Int) < 20)
        all_goals
          go_wp2_with fail
          refine wp_later (by kernel_rfl) (by kernel_rfl) ?_
          repeat (go_big_quiet_step (first | (go_at_call 12; exact later_below (z1 _)) | (go_at_call 13; exact later_below (z2 _)) | fail))
          refine wpQuiet_nil ?_
          rintro _ ⟨p, rfl⟩
          have hp := p.h
          go_wp2_with fail
          go_roundw
          case rel => exact ⟨k + 1, by omega, by go_num, (hrest.out.alloc hrest.out.size _).trans (hp.mono (Nat.le_trans hrest.out.size (Nat.le_of_lt hsz))), (hrest2.out.alloc hrest2.out.size _).trans (hp.mono (Nat.le_trans hrest2.out.size (Nat.le_of_lt hsz)))⟩
          case measure => simp [intOf]; omega
      · have hkm : k = m := by omega
        subst hkm
        clear HR HR3 HR4 hk hlt
        have cn := cn.out
        have ce := first_eq
        have cz := rnew_own
        go_wp2_with (first
          | (go_at_call 14; ((first | with_reducible refine (cn _ hB).mono ?_ | with_reducible refine (cn _ hBs).mono ?_); rintro e w5 ⟨v5, rfl, ho5, hb5⟩; obtain ⟨g5, c5, cur, rfl, hg5, q1, q2, q3, q4⟩ := own_nil_or (show w5.ownsRow _ _ 6 _ 2 (rels firstL) from ho5) (by omega); have HR5 := Reads.of_own (show w5.ownsRow _ _ 6 (.slice _ 2 _) 2 (rels firstL) from ho5); first | (have hgg := Nat.le_trans hBs.size hg5; have hB := hBs.trans (hb5.mono hBs.size)) | (have hgg := Nat.le_trans hB.size hg5; have hB := hB.trans (hb5.mono hB.size))))
          | (go_at_call 16; ((with_reducible refine (cz _).mono ?_); rintro e w6 ⟨v6, rfl, ho6, hb6⟩; obtain ⟨g6, c6, cur6, rfl, hg6, r1, r2, r3, r4⟩ := own_nil_or (show w6.ownsRow _ _ 6 _ 2 (rels firstL) from ho6) (by omega); have HR6 := Reads.of_own (show w6.ownsRow _ _ 6 (.slice _ 2 _) 2 (rels firstL) from ho6); have hB := hB.trans (hb6.mono hB.size)))
          | (go_at_call 15; ((with_reducible refine (ce _ _ _ _ _ ((HR5.below hb6).more hb6.size) HR6).mono ?_); rintro e w7 ⟨rfl, hb7⟩; have hB := hB.trans (hb7.mono hB.size); have hq := (q1.below hb6 q1.lt).below hb7 (Nat.lt_of_lt_of_le q1.lt hb6.size); have hq0 := first_at0 hq q4; have hq1 := hq.frozen 0; have hBs := hB.setCell (p := ⟨g5, 0, none⟩) hgg (.int .i64 9); clear ho5 q4 hq))
          | fail)
        try rw [Exit.noGoto_ret]
        go_ret
        exact ⟨rfl, hB⟩
theorem may_row (A : Option Addr) (n c : Nat) (l : List Rel) (hnc : n ≤ c) (hn : c ≤ 281474976710656) {Q : Prop} (_ : Q) (w : World) (hE : Env w) (hR : Reads w w.heap.size 6 A n (rels l)) :
    Calls Tryd.prog 3 #[.slice A n c] w fun e w' => e = .returned (.bool true) ∧ Below w.heap.size w w' := may_law A n c l w hE hR hnc hn
end Go.Proofs.YtibjelonabhcmaaDoor
