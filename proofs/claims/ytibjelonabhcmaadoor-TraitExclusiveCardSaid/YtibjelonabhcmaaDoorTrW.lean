/- What is proved: contracts of the document's With and Without. -/
import Derived.Test.YtibjelonabhcmaaDoorTrV
namespace Go.Proofs.YtibjelonabhcmaaDoor
open Go.RowKit
set_option linter.unusedVariables false
set_option linter.unusedSimpArgs false
def rwStep (r : Rel) (s : List Rel × Bool) (x : Rel) : List Rel × Bool := if !s.2 && decide (r.i < x.i) then (s.1 ++ [r] ++ [x], true) else (s.1 ++ [x], s.2)
def rwGo (l : List Rel) (r : Rel) : List Rel × Bool := l.foldl (rwStep r) ([], false)
def rwithL (l : List Rel) (r : Rel) : List Rel := if (rwGo l r).2 then (rwGo l r).1 else (rwGo l r).1 ++ [r]
def rwoL (l : List Rel) (v : Int) : List Rel := l.filter fun x => x.i != v
theorem take_snoc {α : Type} {l : List α} {k : Nat} {x : α} (h : l[k]? = some x) : l.take (k + 1) = l.take k ++ [x] := by
  obtain ⟨hk, e⟩ := List.getElem?_eq_some_iff.1 h
  rw [List.take_succ_eq_append_getElem hk, e]
theorem own_snoc {w : World} {B : Nat} {v : Value} {l : List Rel} {x : Rel} (h : w.ownsRow B 31 6 v (l.length + 1) (rels l ++ rels [x])) : w.ownsRow B 31 6 v (l ++ [x]).length (rels (l ++ [x])) := by
  rw [List.length_append, rels_app]; exact h
theorem rwStep_len (r : Rel) (s : List Rel × Bool) (x : Rel) : (rwStep r s x).1.length + (if s.2 then 0 else 1) ≤ s.1.length + 1 + (if s.2 then 0 else 1) + (if (rwStep r s x).2 then 0 else 0) + 1 := by
  unfold rwStep
  split <;> simp <;> split <;> omega
theorem lit_at (w : World) (t : TypeId) (l : List Rel) {C : Array Value} (hC : C.toList = rels l) {q : Nat} (hq : w.heap.size = q) : Reads (w.alloc (.cells C t)) (q + 1) 6 (some ⟨q, 0, none⟩) l.length (rels l) := by
  subst hq
  have h := lit_reads w t l hC
  exact h.more (by simp)
set_option maxRecDepth 100000 in
set_option maxHeartbeats 4000000 in
theorem rwo_any (A : Option Addr) (n c : Nat) (l : List Rel) (v : Int) (w : World) (hR : Reads w w.heap.size 6 A n (rels l)) (hn : n ≤ 65536) :
    Calls Tryd.prog 29 #[.slice A n c, .int .i64 v] w (OwnR (rwoL l v) w) := by
  have hl : l.length = n := by have := hR.1; rw [rels_len] at this; omega
  have c31 : Tryd.prog.cellsOf 31 = 6 := by kernel_rfl
  obtain ⟨i0, hi0, hz0, hz1, hz2⟩ := info_parts info_rel
  go_enter Tryd.func29, Tryd.ntmps29
  go_wp2_with fail
  go_loopw [5, 10] (fun u i wr => ∃ k : Nat, k ≤ n ∧ i = .int .i64 k ∧ wr.ownsRow w.heap.size 31 6 u (rwoL (l.take k) v).length (rels (rwoL (l.take k) v)) ∧ Below w.heap.size w wr)
    (fun _ i _ => n - (intOf i).toNat)
  case atStart => exact ⟨0, Nat.zero_le _, rfl, World.ownsRow_nil _ _ _ _, Below.refl _ _⟩
  case round =>
    obtain ⟨k, hk, rfl, ho, hb⟩ := hrel
    by_cases hlt : k < n
    · have e1 := List.getElem?_eq_getElem (l := l) (i := k) (by omega)
      generalize l[k]'(by omega) = x at e1
      have hs := take_snoc e1
      have hlen : (rwoL (l.take k) v).length ≤ 65536 := Nat.le_trans (List.length_filter_le _ _) (by rw [List.length_take]; omega)
      obtain ⟨b, off, rfl, hbl, g⟩ := rels_cells hR e1
      obtain ⟨g10, g11, g12, g13, g14, g15⟩ := g.below hb hbl
      cases ht : (x.i != v)
      · have hq : rwoL (l.take (k + 1)) v = rwoL (l.take k) v := by rw [hs]; unfold rwoL; rw [List.filter_append]; simp [ht]
        have HO := Lib.hid (show wr.ownsRow w.heap.size 31 6 u5 (rwoL (l.take (k + 1)) v).length (rels (rwoL (l.take (k + 1)) v)) from by rw [hq]; exact ho)
        clear hq hs e1 g hR ho
        go_wp2_with fail
        go_roundw
        case rel => exact ⟨k + 1, by omega, by go_num, HO.out.alloc _, hb.alloc hb.size _⟩
        case measure => simp [intOf]; omega
      · have hq : rwoL (l.take (k + 1)) v = rwoL (l.take k) v ++ [x] := by rw [hs]; unfold rwoL; rw [List.filter_append]; simp [ht]
        have HQ := Lib.hid hq
        have HO := Lib.hid ho
        clear hq hs e1 g hR ho
        go_wp2_with (first
          | (at_builtin
             refine wpList_append_any _ rfl (.tmp 18) (.tmp 20) _ rfl w.heap.size 31 i0 _ 6 40 Tryd.underlying22 hi0 hz0 hz1 hz2 rfl (by omega) _ (rwoL (l.take k) v).length (rels (rwoL (l.take k) v)) rfl
               ?_ (wr.heap.size + 1 + 1) (some ⟨wr.heap.size + 1, 0, none⟩) 1 1 (rels [x]) rfl ?_ (rels_one [x]) (by simp only [maxLen]; omega) (by omega) ?_ ?_
             · exact (HO.out.alloc _).alloc _
             · exact lit_at _ _ [x] rfl (by simp)
             · have := hb.size; simp; omega
             intro v1 w1 hown1 hg1 hat1)
          | fail)
        have hb1 := own_grown_below ((hb.alloc hb.size _).alloc (by have := hb.size; simp; omega) _) ((HO.out.alloc _).alloc _) hg1
        have hown2 := own_snoc hown1
        rw [← HQ.out] at hown2
        clear hown1 hg1 hat1
        go_wp2_with fail
        go_roundw
        case rel => exact ⟨k + 1, by omega, by go_num, hown2, hb1⟩
        case measure => simp [intOf]; omega
    · have : k = n := by omega
      subst this
      rw [List.take_of_length_le (by omega)] at ho
      have HO := Lib.hid ho
      clear hR ho
      go_wp2_with fail
      go_ret
      exact ⟨_, rfl, HO.out, hb⟩
theorem rwStep_a {r x : Rel} {s : List Rel × Bool} (h1 : s.2 = false) (h2 : decide (r.i < x.i) = true) : rwStep r s x = (s.1 ++ [r] ++ [x], true) := by unfold rwStep; rw [h1, h2]; rfl
theorem rwStep_b {r x : Rel} {s : List Rel × Bool} (h1 : s.2 = false) (h2 : decide (r.i < x.i) = false) : rwStep r s x = (s.1 ++ [x], false) := by unfold rwStep; rw [h1, h2]; rfl
theorem rwStep_c {r x : Rel} {s : List Rel × Bool} (h1 : s.2 = true) : rwStep r s x = (s.1 ++ [x], true) := by unfold rwStep; rw [h1]; rfl
theorem rwGo_len (l : List Rel) (r : Rel) : (rwGo l r).1.length = l.length + (if (rwGo l r).2 then 1 else 0) := by
  suffices h : ∀ (l : List Rel) (s : List Rel × Bool), ((l.foldl (rwStep r) s).1.length + (if s.2 then 1 else 0) = s.1.length + l.length + (if (l.foldl (rwStep r) s).2 then 1 else 0)) by
    have := h l ([], false)
    simp only [Bool.false_eq_true, if_false, List.length_nil, Nat.zero_add, Nat.add_zero] at this
    exact this
  intro l
  induction l with
  | nil => intro s; rfl
  | cons x l ih =>
    intro s
    have := ih (rwStep r s x)
    rw [List.foldl_cons, List.length_cons]
    cases h1 : s.2
    · cases h2 : decide (r.i < x.i)
      · rw [rwStep_b h1 h2] at this ⊢
        simp only [List.length_append, List.length_singleton, Bool.false_eq_true, if_false] at this ⊢; omega
      · rw [rwStep_a h1 h2] at this ⊢
        simp only [List.length_append, List.length_singleton, Bool.false_eq_true, if_false, if_true] at this ⊢; omega
    · rw [rwStep_c h1] at this ⊢
      simp only [List.length_append, List.length_singleton, if_true] at this ⊢; omega
theorem rwGo_snoc {l : List Rel} {r x : Rel} {k : Nat} (h : l[k]? = some x) : rwGo (l.take (k + 1)) r = rwStep r (rwGo (l.take k) r) x := by
  unfold rwGo; rw [take_snoc h, List.foldl_append]; rfl
theorem grown_new6 {wr w1 : World} {base n : Nat} {e : TypeId} {size : Nat} {v : Value} {xs : List Value} (ho : wr.ownsRow base e size v n xs) {t : TypeId} {v0 v1 v2 v3 v4 v5 : Value} {o : Obj}
    (hg : ((wr.alloc (.cells #[v0, v1, v2, v3, v4, v5] t)).alloc o).grownBy w1 v.ownBlock) : wr.heap.size < w1.heap.size ∧ (w1.cell? ⟨wr.heap.size, 0, none⟩ = some v0 ∧ w1.cell? ⟨wr.heap.size, 1, none⟩ = some v1 ∧ w1.cell? ⟨wr.heap.size, 2, none⟩ = some v2 ∧
      w1.cell? ⟨wr.heap.size, 3, none⟩ = some v3 ∧ w1.cell? ⟨wr.heap.size, 4, none⟩ = some v4 ∧ w1.cell? ⟨wr.heap.size, 5, none⟩ = some v5) := by
  have hne : some wr.heap.size ≠ v.ownBlock := by
    rcases ho.2 with ⟨rfl, _⟩ | ⟨g, cap, cur, rfl, _, h1, _⟩
    · simp [Value.ownBlock]
    · have := (Array.getElem?_eq_some_iff.1 h1).1
      simp [Value.ownBlock]; omega
  have hb : Blk ((wr.alloc (.cells #[v0, v1, v2, v3, v4, v5] t)).alloc o) wr.heap.size t #[v0, v1, v2, v3, v4, v5] := (Blk.new wr t _).alloc o
  have hb1 : Blk w1 wr.heap.size t #[v0, v1, v2, v3, v4, v5] := (hg.block _ hb.lt hne).trans hb
  exact ⟨hb1.lt, hb1.cell 0, hb1.cell 1, hb1.cell 2, hb1.cell 3, hb1.cell 4, hb1.cell 5⟩
set_option maxRecDepth 100000 in
set_option maxHeartbeats 4000000 in
theorem rwith_any (A : Option Addr) (n c : Nat) (l : List Rel) (r : Rel) (w : World) (hR : Reads w w.heap.size 6 A n (rels l)) (hn : n ≤ 65536) :
    Calls Tryd.prog 26 #[.slice A n c, relV r] w (OwnR (rwithL l r) w) := by
  have hl : l.length = n := by have := hR.1; rw [rels_len] at this; omega
  have c31 : Tryd.prog.cellsOf 31 = 6 := by kernel_rfl
  obtain ⟨i0, hi0, hz0, hz1, hz2⟩ := info_parts info_rel
  obtain ⟨W0, hW0⟩ : ∃ W0, W0 = w.alloc (Obj.cells #[.int .i64 r.i, .bool r.a, .bool r.e, .int .i64 r.w, .int .i64 r.t, .int .i64 r.r] 31) := ⟨_, rfl⟩
  obtain ⟨hb0, hsz, c0, c1, c2, c3, c4, c5⟩ := new6 hW0
  have HBX := Lib.hid (fun (W : World) (h : Below W0.heap.size W0 W) => (show Cells6 W0 w.heap.size 0 r from ⟨c0, c1, c2, c3, c4, c5⟩).below h hsz)
  clear c0 c1 c2 c3 c4 c5
  unfold relV
  go_enter Tryd.func26, Tryd.ntmps26
  go_wp2_with fail
  rw [← hW0]
  clear hW0
  go_loopw [5, 6, 11] (fun u t i wr => ∃ k : Nat, k ≤ n ∧ i = .int .i64 k ∧ t = .bool (rwGo (l.take k) r).2 ∧ wr.ownsRow W0.heap.size 31 6 u (rwGo (l.take k) r).1.length (rels (rwGo (l.take k) r).1) ∧ Below W0.heap.size W0 wr)
    (fun _ _ i _ => n - (intOf i).toNat)
  case atStart => exact ⟨0, Nat.zero_le _, rfl, rfl, World.ownsRow_nil _ _ _ _, Below.refl _ _⟩
  case round =>
    obtain ⟨k, hk, rfl, rfl, ho, hb⟩ := hrel
    obtain ⟨x0, x1, x2, x3, x4, x5⟩ := HBX.out _ hb
    simp only [Nat.zero_add] at x1 x2 x3 x4 x5
    have hs0 : w.heap.size < wr.heap.size := Nat.lt_of_lt_of_le hsz hb.size
    have hgl := rwGo_len (l.take k) r
    have hglt : (l.take k).length ≤ 65536 := by rw [List.length_take]; omega
    have hlen : (rwGo (l.take k) r).1.length ≤ 65537 := by rw [hgl]; split <;> omega
    clear hgl hglt
    by_cases hlt : k < n
    · have e1 := List.getElem?_eq_getElem (l := l) (i := k) (by omega)
      generalize l[k]'(by omega) = x at e1
      have hs := rwGo_snoc (r := r) e1
      obtain ⟨b, off, rfl, hbl, g⟩ := rels_cells hR e1
      obtain ⟨g10, g11, g12, g13, g14, g15⟩ := (g.below hb0 hbl).below hb (by omega)
      clear e1 g hR
      generalize rwGo (l.take k) r = s at *
      have HO := Lib.hid ho
      clear ho
      cases h1 : s.2
      · cases h2 : decide (r.i < x.i)
        · rw [rwStep_b h1 h2] at hs
          have HS := Lib.hid hs
          clear hs
          go_wp2_with (first
            | (at_builtin
               refine wpList_append_any _ rfl (.tmp 28) (.tmp 30) _ rfl W0.heap.size 31 i0 _ 6 40 Tryd.underlying22 hi0 hz0 hz1 hz2 rfl (by omega) _ s.1.length (rels s.1) rfl
                 ?_ (wr.heap.size + 1 + 1) (some ⟨wr.heap.size + 1, 0, none⟩) 1 1 (rels [x]) rfl ?_ (rels_one [x]) (by simp only [maxLen]; omega) (by omega) ?_ ?_
               · exact (HO.out.alloc _).alloc _
               · exact lit_at _ _ [x] rfl (by simp)
               · have := hb.size; simp; omega
               intro v1 w1 hown1 hg1 hat1)
            | fail)
          have hb1 := own_grown_below ((hb.alloc hb.size _).alloc (by have := hb.size; simp; omega) _) ((HO.out.alloc _).alloc _) hg1
          have hown2 := own_snoc hown1
          clear hown1 hg1 hat1
          go_wp2_with fail
          go_roundw
          case rel => exact ⟨k + 1, by omega, by go_num, by rw [HS.out], by rw [HS.out]; exact hown2, hb1⟩
          case measure => simp [intOf]; omega
        · rw [rwStep_a h1 h2] at hs
          obtain ⟨q, hq1⟩ : ∃ q, q = s.1 ++ [r] := ⟨_, rfl⟩
          have hl2 : q.length ≤ 65538 := by rw [hq1, List.length_append, List.length_singleton]; omega
          rw [← hq1] at hs
          have HS := Lib.hid hs
          have HQ1 := Lib.hid hq1
          clear hs hq1
          go_wp2_with (first
            | (at_builtin
               refine wpList_append_any _ rfl (.tmp 24) (.tmp 26) _ rfl W0.heap.size 31 i0 _ 6 40 Tryd.underlying22 hi0 hz0 hz1 hz2 rfl (by omega) _ s.1.length (rels s.1) rfl
                 ?_ (wr.heap.size + 1 + 1) (some ⟨wr.heap.size + 1, 0, none⟩) 1 1 (rels [r]) rfl ?_ (rels_one [r]) (by simp only [maxLen]; omega) (by omega) ?_ ?_
               · exact (HO.out.alloc _).alloc _
               · exact lit_at _ _ [r] rfl (by simp)
               · have := hb.size; simp; omega
               intro v1 w1 hown1 hg1 hat1
               have hbx := ((hb.alloc hb.size (Obj.cells #[.int .i64 x.i, .bool x.a, .bool x.e, .int .i64 x.w, .int .i64 x.t, .int .i64 x.r] 31)))
               have hb1 := own_grown_below (hbx.alloc (by have := hb.size; simp; omega) _) ((HO.out.alloc _).alloc _) hg1
               have hown2 := own_snoc hown1
               rw [← HQ1.out] at hown2
               obtain ⟨hz6, y0, y1, y2, y3, y4, y5⟩ := grown_new6 HO.out hg1
               obtain ⟨A1, c1, rfl⟩ := own_slice hown2
               have HO2 := Lib.hid hown2
               clear hown1 hg1 hat1 hown2 hbx x0 x1 x2 x3 x4 x5)
            | (at_builtin
               refine wpList_append_any _ rfl (.tmp 28) (.tmp 30) _ rfl W0.heap.size 31 i0 _ 6 40 Tryd.underlying22 hi0 hz0 hz1 hz2 rfl (by omega) _ q.length (rels q) rfl
                 ?_ (w1.heap.size + 1) (some ⟨w1.heap.size, 0, none⟩) 1 1 (rels [x]) rfl ?_ (rels_one [x]) (by simp only [maxLen]; omega) (by omega) ?_ ?_
               · exact HO2.out.alloc _
               · exact lit_at _ _ [x] rfl (by simp)
               · have := hb1.size; simp; omega
               intro v3 w3 hown3 hg3 hat3)
            | fail)
          have hb3 := own_grown_below (hb1.alloc hb1.size _) (HO2.out.alloc _) hg3
          have hown4 := own_snoc hown3
          clear hown3 hg3 hat3
          go_wp2_with fail
          go_roundw
          case rel => exact ⟨k + 1, by omega, by go_num, by rw [HS.out], by rw [HS.out]; exact hown4, hb3⟩
          case measure => simp [intOf]; omega
      · rw [rwStep_c h1] at hs
        have HS := Lib.hid hs
        clear hs
        go_wp2_with (first
            | (at_builtin
               refine wpList_append_any _ rfl (.tmp 28) (.tmp 30) _ rfl W0.heap.size 31 i0 _ 6 40 Tryd.underlying22 hi0 hz0 hz1 hz2 rfl (by omega) _ s.1.length (rels s.1) rfl
                 ?_ (wr.heap.size + 1 + 1) (some ⟨wr.heap.size + 1, 0, none⟩) 1 1 (rels [x]) rfl ?_ (rels_one [x]) (by simp only [maxLen]; omega) (by omega) ?_ ?_
               · exact (HO.out.alloc _).alloc _
               · exact lit_at _ _ [x] rfl (by simp)
               · have := hb.size; simp; omega
               intro v1 w1 hown1 hg1 hat1)
            | fail)
        have hb1 := own_grown_below ((hb.alloc hb.size _).alloc (by have := hb.size; simp; omega) _) ((HO.out.alloc _).alloc _) hg1
        have hown2 := own_snoc hown1
        clear hown1 hg1 hat1
        go_wp2_with fail
        go_roundw
        case rel => exact ⟨k + 1, by omega, by go_num, by rw [HS.out], by rw [HS.out]; exact hown2, hb1⟩
        case measure => simp [intOf]; omega
    · have : k = n := by omega
      subst this
      rw [List.take_of_length_le (by omega)] at ho hlen
      rw [List.take_of_length_le (by omega)]
      have hq : rwithL l r = if (rwGo l r).2 then (rwGo l r).1 else (rwGo l r).1 ++ [r] := rfl
      clear hR
      generalize rwGo l r = s at *
      have HO := Lib.hid ho
      clear ho
      cases h1 : s.2
      · rw [h1] at hq
        have HQ := Lib.hid (show rwithL l r = s.1 ++ [r] from hq)
        clear hq
        go_wp2_with (first
          | (at_builtin
             refine wpList_append_any _ rfl (.tmp 35) (.tmp 37) _ rfl W0.heap.size 31 i0 _ 6 40 Tryd.underlying22 hi0 hz0 hz1 hz2 rfl (by omega) _ s.1.length (rels s.1) rfl
               ?_ (wr.heap.size + 1) (some ⟨wr.heap.size, 0, none⟩) 1 1 (rels [r]) rfl ?_ (rels_one [r]) (by simp only [maxLen]; omega) (by omega) ?_ ?_
             · exact HO.out.alloc _
             · exact lit_at _ _ [r] rfl (by simp)
             · have := hb.size; simp; omega
             intro v1 w1 hown1 hg1 hat1)
          | fail)
        have hb1 := own_grown_below (hb.alloc hb.size _) (HO.out.alloc _) hg1
        have hown2 := own_snoc hown1
        have hfin : OwnR (rwithL l r) w (.returned v1) w1 := ⟨v1, rfl, by rw [HQ.out]; exact base_le hown2 hb0.size, hb0.trans (hb1.mono hb0.size)⟩
        clear hown1 hg1 hat1 hown2
        go_wp2_with fail
        go_ret
        exact hfin
      · rw [h1] at hq
        have HQ := Lib.hid (show rwithL l r = s.1 from hq)
        clear hq
        go_wp2_with fail
        go_ret
        exact ⟨_, rfl, by rw [HQ.out]; exact base_le HO.out hb0.size, hb0.trans (hb.mono hb0.size)⟩
end Go.Proofs.YtibjelonabhcmaaDoor
