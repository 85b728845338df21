/- What is proved: the law's TraitTurn returns true. -/
import Derived.Test.YtibjelonabhcmaaDoorTr8
import Derived.Test.YtibjelonabhcmaaDoorTr9
import Derived.Test.YtibjelonabhcmaaDoorTs2
namespace Go.Proofs.YtibjelonabhcmaaDoor
open Go.RowKit
set_option linter.unusedVariables false
set_option linter.unusedSimpArgs false
/-- a row of relations, and an error -/
def RowE (l : List Rel) (n : Nat) (x : Int) (w : World) (e : Ending) (w' : World) : Prop := ∃ A c, e = .returned (.tuple #[.slice A n c, .int .i64 x]) ∧ Reads w' w'.heap.size 6 A n (rels l) ∧ Below w.heap.size w w'
theorem OwnE.row {l : List Rel} {n : Nat} {x : Int} {w w' : World} {e : Ending} (h : OwnE l x w e w') (hn : l.length = n) : RowE l n x w e w' := by
  obtain ⟨v, rfl, ho, hb⟩ := h
  obtain ⟨A, c, rfl, _, _⟩ := own_cap ho
  subst hn
  exact ⟨A, c, rfl, Reads.of_own ho, hb⟩
/-- a copy of the first 201 -/
def FewC (L : List Rel) (m : Nat) (w : World) (e : Ending) (w' : World) : Prop := ∃ A c, e = .returned (.slice A m c) ∧ Reads w' w'.heap.size 6 A m (rels L) ∧ (m ≤ c ∧ c ≤ 9223372036854775807) ∧ Below w.heap.size w w'
theorem few_c {A : Option Addr} {n c : Nat} {l : List Rel} {w : World} (hR : Reads w w.heap.size 6 A n (rels l)) (hnc : n ≤ c) (hn : c ≤ 281474976710656) {L : List Rel} {m : Nat} (hL : l.take 201 = L) (hm : L.length = m) :
    Calls Tryd.prog 9 #[.slice A n c] w (FewC L m w) := by
  refine (few_own A n c l w hR hnc hn).mono ?_
  rw [hL]
  rintro e w' ⟨v, rfl, ho, hb⟩
  obtain ⟨A, c, rfl, h1, h2⟩ := own_cap ho
  subst hm
  exact ⟨A, c, rfl, Reads.of_own ho, ⟨h1, h2⟩, hb⟩
theorem with_zero {l : List Rel} {r : Rel} (h : withE l r = 0) : R l ∧ mayE r.w r.t r.r = 0 ∧ idxB r.i = true ∧ bsIn l r.i = false ∧ l.length ≤ 199 ∧ withL l r = ins l r := by
  have hL : withL l r = ins l r := by unfold withL; rw [if_pos h]; rfl
  unfold withE at h
  split at h
  · rename_i h1
    have hR := (right_iff l).1 h1
    split at h
    · rename_i h2
      split at h
      · rename_i h3
        split at h
        · omega
        · rename_i h4
          split at h
          · omega
          · rename_i h5
            exact ⟨hR, h2, h3, by simpa using h4, by have := hR.len; omega, hL⟩
      · omega
    · contradiction
  · omega
theorem with_not {l : List Rel} {r : Rel} (h : withE l r ≠ 0) : withL l r = [] := by unfold withL; rw [if_neg h]
theorem run_eql_tr (w : World) (x y : Rel) : (binOp .eql 29 (.agg #[.bool x.a, .bool x.e, .int .i64 x.w, .int .i64 x.t, .int .i64 x.r]) (.agg #[.bool y.a, .bool y.e, .int .i64 y.w, .int .i64 y.t, .int .i64 y.r])).run Tryd.prog w = .ok (.bool (treq x y)) w := by
  have h := run_treq w 9998 x y
  rw [run_eql_struct, h]; rfl
theorem treq_self (x : Rel) : treq x x = true := by simp [treq]
/-- what the law asks of a row with one more -/
structure Turn (L : List Rel) (r : Rel) (m : Nat) (M : List Rel) : Prop where
  len : M.length = m + 1
  f1 : tfind M r.i = some r
  f2 : tfind L r.i = none
  we : withoutE M r.i = 0
  wl : withoutL M r.i = L
  ck : chkE M = 0
theorem turn_of {L : List Rel} {r : Rel} {m : Nat} (hm : L.length = m) (h : withE L r = 0) : Turn L r m (ins L r) := by
  obtain ⟨hR, h1, h2, h3, h4, h5⟩ := with_zero h
  obtain ⟨q1, q2⟩ := ins_found hR h2 h1 h3 h4
  have hM := (right_iff _).2 (ins_right hR h2 h1 h3 h4)
  have h9 := (ins_far hR h2 h3).1
  have we : withoutE (ins L r) r.i = 0 := by unfold withoutE; rw [if_pos hM, if_neg (by omega), if_pos q1]
  refine ⟨by rw [ins_len hR h2, hm], ?_, ?_, we, ?_, ?_⟩
  · unfold tfind; rw [q1, hM, q2]; exact ins_at hR h2
  · unfold tfind; rw [h3]; rfl
  · unfold withoutL; rw [if_pos we, q2]; exact ins_out hR h2
  · unfold chkE; rw [if_pos hM]
set_option maxRecDepth 100000 in
set_option maxHeartbeats 8000000 in
theorem turn_no (A : Option Addr) (n c : Nat) (l : List Rel) (r : Rel) (w : World) (hE : Env w) (hR : Reads w w.heap.size 6 A n (rels l)) (hnc : n ≤ c) (hn : c ≤ 281474976710656) (hx : withE (l.take 201) r ≠ 0) :
    Calls Tryd.prog 6 #[.slice A n c, relV r] w fun e w' => e = .returned (.bool true) ∧ Below w.heap.size w w' := by
  obtain ⟨L, hL⟩ : ∃ L, l.take 201 = L := ⟨_, rfl⟩
  obtain ⟨m, hm⟩ : ∃ m, L.length = m := ⟨_, rfl⟩
  have hm2 : m ≤ 201 := by rw [← hm, ← hL, List.length_take]; omega
  rw [hL] at hx
  obtain ⟨W0, hW0⟩ : ∃ W0, W0 = w.alloc (Obj.cells #[.int .i64 r.i, .bool r.a, .bool r.e, .int .i64 r.w, .int .i64 r.t, .int .i64 r.r] 31) := ⟨_, rfl⟩
  obtain ⟨hB, hsz, c0, c1, c2, c3, c4, c5⟩ := new6 hW0
  have h0 := Below.refl W0.heap.size W0
  have HX := Lib.hid (fun (W : World) (h : Below W0.heap.size W0 W) => (⟨cell_below' h c0 hsz, cell_below' h c1 hsz, cell_below' h c2 hsz, cell_below' h c3 hsz, cell_below' h c4 hsz, cell_below' h c5 hsz⟩ : (W.cell? ⟨w.heap.size, 0, none⟩ = some (.int .i64 r.i) ∧ W.cell? ⟨w.heap.size, 1, none⟩ = some (.bool r.a) ∧ W.cell? ⟨w.heap.size, 2, none⟩ = some (.bool r.e) ∧ W.cell? ⟨w.heap.size, 3, none⟩ = some (.int .i64 r.w) ∧ W.cell? ⟨w.heap.size, 4, none⟩ = some (.int .i64 r.t) ∧ W.cell? ⟨w.heap.size, 5, none⟩ = some (.int .i64 r.r))))
  have cw := fun (W : World) (h : Below w.heap.size w W) => wakes_any W (hE.below h)
  have cf := fun (W : World) (h : Below w.heap.size w W) => few_c (w := W) (c := c) ((hR.below h).more h.size) hnc hn hL hm
  have ci := fun (W : World) (h : Below w.heap.size w W) (A : Option Addr) (c : Nat) (hR : Reads W W.heap.size 6 A m (rels L)) (hc : m ≤ c ∧ c ≤ 9223372036854775807) =>
    (with_any A m c L r W (hE.below h) hR hc.1 (by omega) hc.2).mono (fun e w' h => OwnE.row (n := 0) h (by rw [with_not hx]; first | done | rfl))
  rw [with_not hx] at ci
  generalize withE L r = x at ci hx
  have hx2 : (x != 0) = true := by simpa using hx
  unfold relV at ci ⊢
  clear hE hR hx c0 c1 c2 c3 c4 c5
  subst hW0
  go_enter Tryd.func6, Tryd.ntmps6
  go_wp2_with (first
    | (go_at_call 8; ((with_reducible refine (cw _ hB).mono ?_); rintro e w1 ⟨rfl, hb1⟩; have hB := hB.trans (hb1.mono hB.size); have h0 := h0.trans (hb1.mono h0.size)))
    | (go_at_call 9; ((with_reducible refine (cf _ hB).mono ?_); rintro e w2 ⟨A2, c2, rfl, HR, hc2, hb2⟩; have hB := hB.trans (hb2.mono hB.size); have h0 := h0.trans (hb2.mono h0.size); obtain ⟨x0, x1, x2, x3, x4, x5⟩ := HX.out _ h0))
    | (go_at_call 23; ((with_reducible refine (ci _ hB _ _ HR hc2).mono ?_); rintro e w3 ⟨A3, c3, rfl, HM, hb3⟩; have hB := hB.trans (hb3.mono hB.size)))
    | fail)
  go_ret
  exact ⟨rfl, hB⟩
end Go.Proofs.YtibjelonabhcmaaDoor
