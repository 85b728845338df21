/- What is proved: contracts of trait's Check and of the document's Right. -/
import Derived.Test.YtibjelonabhcmaaDoorTrL
import Derived.Test.YtibjelonabhcmaaDoorLater
namespace Go.Proofs.YtibjelonabhcmaaDoor
open Go.RowKit
set_option linter.unusedVariables false
set_option linter.unusedSimpArgs false
def okRel (x : Rel) : Bool := decide (1 ≤ x.i ∧ x.i ≤ 1048578) && (mayE x.w x.t x.r == 0)
def okAt (l : List Rel) (k : Nat) (x : Rel) : Bool := okRel x && (k == 0 || decide (keyAt l (k - 1) < x.i))
def okC (l : List Rel) (k : Nat) (x : Rel) : Bool := (match firstL[k]? with | some y => releq x y | none => true) && okAt l k x
def rowOk (l : List Rel) : Nat → Bool
  | 0 => true
  | k + 1 => rowOk l k && (match l[k]? with | some x => okAt l k x | none => true)
def rowC (l : List Rel) : Nat → Bool
  | 0 => true
  | k + 1 => rowC l k && (match l[k]? with | some x => okC l k x | none => true)
def right (l : List Rel) : Bool := decide (2 ≤ l.length ∧ l.length ≤ 200) && rowC l l.length
theorem rowC_false {l : List Rel} {k n : Nat} (h : rowC l k = false) (hk : k ≤ n) : rowC l n = false := by
  induction n with
  | zero => have : k = 0 := by omega
            subst this; exact h
  | succ n ih =>
    rcases Nat.lt_or_ge n k with h2 | h2
    · have : k = n + 1 := by omega
      subst this; exact h
    · show (rowC l n && _) = false
      rw [ih h2]; rfl
theorem rowOk_false {l : List Rel} {k n : Nat} (h : rowOk l k = false) (hk : k ≤ n) : rowOk l n = false := by
  induction n with
  | zero => have : k = 0 := by omega
            subst this; exact h
  | succ n ih =>
    rcases Nat.lt_or_ge n k with h2 | h2
    · have : k = n + 1 := by omega
      subst this; exact h
    · show (rowOk l n && _) = false
      rw [ih h2]; rfl
theorem rowC_step {l : List Rel} {k : Nat} {x : Rel} (h : l[k]? = some x) : rowC l (k + 1) = (rowC l k && okC l k x) := by
  show (rowC l k && _) = _
  rw [h]
theorem rowOk_step {l : List Rel} {k : Nat} {x : Rel} (h : l[k]? = some x) : rowOk l (k + 1) = (rowOk l k && okAt l k x) := by
  show (rowOk l k && _) = _
  rw [h]
theorem mayE_cases (w t r : Int) : mayE w t r = 0 ∨ mayE w t r = 2 ∨ mayE w t r = 231 := by
  unfold mayE
  split
  · exact .inr (.inr rfl)
  · split
    · exact .inl rfl
    · exact .inr (.inl rfl)
def f0 : Rel := ⟨1, true, true, 0, 1, 2⟩
def f1 : Rel := ⟨2, true, false, 0, 0, 2⟩
theorem okC_0 (l : List Rel) (x : Rel) : okC l 0 x = (releq x f0 && okRel x) := by
  show (releq x f0 && (okRel x && (true || _))) = _
  rw [Bool.true_or, Bool.and_true]
theorem okC_1 (l : List Rel) (x : Rel) : okC l 1 x = (releq x f1 && (okRel x && decide (keyAt l 0 < x.i))) := by
  show (releq x f1 && (okRel x && (false || _))) = _
  rw [Bool.false_or]
theorem okC_2 (l : List Rel) (k : Nat) (x : Rel) : okC l (k + 2) x = (okRel x && decide (keyAt l (k + 1) < x.i)) := by
  show (true && (okRel x && (false || _))) = _
  rw [Bool.false_or, Bool.true_and]; rfl
theorem okRel_cases (x : Rel) : (decide (1 ≤ x.i ∧ x.i ≤ 1048578) = false ∧ okRel x = false) ∨ (decide (1 ≤ x.i ∧ x.i ≤ 1048578) = true ∧ mayE x.w x.t x.r = 2 ∧ okRel x = false) ∨
    (decide (1 ≤ x.i ∧ x.i ≤ 1048578) = true ∧ mayE x.w x.t x.r = 231 ∧ okRel x = false) ∨ (decide (1 ≤ x.i ∧ x.i ≤ 1048578) = true ∧ mayE x.w x.t x.r = 0 ∧ okRel x = true) := by
  unfold okRel
  cases decide (1 ≤ x.i ∧ x.i ≤ 1048578)
  · exact .inl ⟨rfl, rfl⟩
  · rcases mayE_cases x.w x.t x.r with h | h | h <;> rw [h] <;> simp
theorem Env.first0 {w : World} (h : Env w) : Cells6 w 0 0 f0 :=
  ⟨h.2 0 _ rfl, h.2 1 _ rfl, h.2 2 _ rfl, h.2 3 _ rfl, h.2 4 _ rfl, h.2 5 _ rfl⟩
theorem Env.first1 {w : World} (h : Env w) : Cells6 w 0 6 f1 :=
  ⟨h.2 6 _ rfl, h.2 7 _ rfl, h.2 8 _ rfl, h.2 9 _ rfl, h.2 10 _ rfl, h.2 11 _ rfl⟩
theorem keyAt_some {l : List Rel} {k : Nat} {x : Rel} (h : l[k]? = some x) : keyAt l k = x.i := by unfold keyAt; rw [h]
theorem new6 {w W0 : World} {t : TypeId} {v0 v1 v2 v3 v4 v5 : Value} (h : W0 = w.alloc (.cells #[v0, v1, v2, v3, v4, v5] t)) :
    Below w.heap.size w W0 ∧ w.heap.size < W0.heap.size ∧ (W0.cell? ⟨w.heap.size, 0, none⟩ = some v0 ∧ W0.cell? ⟨w.heap.size, 1, none⟩ = some v1 ∧ W0.cell? ⟨w.heap.size, 2, none⟩ = some v2 ∧
      W0.cell? ⟨w.heap.size, 3, none⟩ = some v3 ∧ W0.cell? ⟨w.heap.size, 4, none⟩ = some v4 ∧ W0.cell? ⟨w.heap.size, 5, none⟩ = some v5) := by
  subst h
  have b := Blk.new w t #[v0, v1, v2, v3, v4, v5]
  exact ⟨(Below.refl _ _).alloc (Nat.le_refl _) _, b.lt, b.cell 0, b.cell 1, b.cell 2, b.cell 3, b.cell 4, b.cell 5⟩
set_option maxRecDepth 100000 in
set_option maxHeartbeats 4000000 in
theorem chk1_0 (A : Option Addr) (n c : Nat) (l : List Rel) (x : Rel) (bp : Nat) (w : World) (hE : Env w) (hbp : bp < w.heap.size) (hp : w.cell? ⟨bp, 0, none⟩ = some (.slice A n c)) :
    Calls Tryd.prog 41 #[.int .i64 0, relV x, .pointer (some ⟨bp, 0, none⟩)] w fun e w' => e = .returned (.bool (okC l 0 x)) ∧ Below w.heap.size w w' := by
  have i1 := fun w => idx_any x.i w
  have m1 := fun w => may_any x.a x.e x.w x.t x.r w
  have q1 := fun w => run_eql_rel w x f0
  obtain ⟨g0, g1, g2, g3, g4, g5⟩ := hE.first0
  unfold relV f0 at q1
  unfold f0 at g0 g1 g2 g3 g4 g5
  dsimp only at g0 g1 g2 g3 g4 g5
  clear hp hbp
  have hz := hE.1
  clear hE
  unfold trV at m1
  unfold relV
  rw [okC_0]
  have hu : Tryd.prog.cellsOf 31 = 6 := by kernel_rfl
  have key : (releq x f0 = false ∧ (releq x f0 && okRel x) = false) ∨ (releq x f0 = true ∧ decide (1 ≤ x.i ∧ x.i ≤ 1048578) = false ∧ (releq x f0 && okRel x) = false) ∨
      (releq x f0 = true ∧ decide (1 ≤ x.i ∧ x.i ≤ 1048578) = true ∧ mayE x.w x.t x.r = 2 ∧ (releq x f0 && okRel x) = false) ∨
      (releq x f0 = true ∧ decide (1 ≤ x.i ∧ x.i ≤ 1048578) = true ∧ mayE x.w x.t x.r = 231 ∧ (releq x f0 && okRel x) = false) ∨
      (releq x f0 = true ∧ decide (1 ≤ x.i ∧ x.i ≤ 1048578) = true ∧ mayE x.w x.t x.r = 0 ∧ (releq x f0 && okRel x) = true) := by
    cases h1 : releq x f0
    · exact .inl ⟨rfl, rfl⟩
    · rcases okRel_cases x with ⟨h2, h4⟩ | ⟨h2, h3, h4⟩ | ⟨h2, h3, h4⟩ | ⟨h2, h3, h4⟩ <;> simp [*]
  generalize hv : (releq x f0 && okRel x) = v at key ⊢
  clear hv
  unfold f0 at key
  rcases key with ⟨h1, h4⟩ | ⟨h1, h2, h4⟩ | ⟨h1, h2, h3, h4⟩ | ⟨h1, h2, h3, h4⟩ | ⟨h1, h2, h3, h4⟩
  all_goals
    rw [h4]
    try rw [h1] at q1
    try rw [h2] at i1
    try rw [h3] at m1
    clear h4
    try clear h1
    try clear h2
    try clear h3
    go_enter Tryd.func41, Tryd.ntmps41
    go_wp2_with fail
    obtain ⟨W0, hW0⟩ : ∃ W0, W0 = w.alloc (Obj.cells #[.int .i64 x.i, .bool x.a, .bool x.e, .int .i64 x.w, .int .i64 x.t, .int .i64 x.r] 31) := ⟨_, rfl⟩
    obtain ⟨hb0, hsz, c0, c1, c2, c3, c4, c5⟩ := new6 hW0
    have hz0 : 0 < W0.heap.size := by omega
    have C0 := fun p : Later W0 => p.cell c0 hsz
    have C1 := fun p : Later W0 => p.cell c1 hsz
    have C2 := fun p : Later W0 => p.cell c2 hsz
    have C3 := fun p : Later W0 => p.cell c3 hsz
    have C4 := fun p : Later W0 => p.cell c4 hsz
    have C5 := fun p : Later W0 => p.cell c5 hsz
    have D0 := fun p : Later W0 => p.cell (cell_below' hb0 g0 hz) hz0
    have D1 := fun p : Later W0 => p.cell (cell_below' hb0 g1 hz) hz0
    have D2 := fun p : Later W0 => p.cell (cell_below' hb0 g2 hz) hz0
    have D3 := fun p : Later W0 => p.cell (cell_below' hb0 g3 hz) hz0
    have D4 := fun p : Later W0 => p.cell (cell_below' hb0 g4 hz) hz0
    have D5 := fun p : Later W0 => p.cell (cell_below' hb0 g5 hz) hz0
    rw [← hW0]
    clear hW0 c0 c1 c2 c3 c4 c5 g0 g1 g2 g3 g4 g5
    refine wp_later (by kernel_rfl) (by kernel_rfl) ?_
    repeat (go_big_quiet_step (first
      | (go_at_call 42; exact later_same (i1 _))
      | (go_at_call 12; exact later_below (m1 _))))
    refine wpQuiet_nil ?_
    rintro _ ⟨p, rfl⟩
    have hbp1 := hb0.trans (p.h.mono (Nat.le_of_lt hsz))
    go_wp2_with fail
    go_ret
    exact ⟨rfl, hbp1⟩
set_option maxRecDepth 100000 in
set_option maxHeartbeats 4000000 in
theorem chk1_1 (A : Option Addr) (n c : Nat) (l : List Rel) (x : Rel) (bp : Nat) (w : World) (y : Rel) (hR : Reads w w.heap.size 6 A n (rels l)) (hn : n ≤ 65536) (hl : 1 ≤ n) (hy : l[0]? = some y) (hE : Env w) (hbp : bp < w.heap.size) (hp : w.cell? ⟨bp, 0, none⟩ = some (.slice A n c)) :
    Calls Tryd.prog 41 #[.int .i64 1, relV x, .pointer (some ⟨bp, 0, none⟩)] w fun e w' => e = .returned (.bool (okC l 1 x)) ∧ Below w.heap.size w w' := by
  have i1 := fun w => idx_any x.i w
  have m1 := fun w => may_any x.a x.e x.w x.t x.r w
  have q1 := fun w => run_eql_rel w x f1
  obtain ⟨g0, g1, g2, g3, g4, g5⟩ := hE.first1
  unfold relV f1 at q1
  unfold f1 at g0 g1 g2 g3 g4 g5
  dsimp only at g0 g1 g2 g3 g4 g5
  have hkey := keyAt_some hy
  obtain ⟨b, off, rfl, hby, gy⟩ := rels_cells hR hy
  have y0 := gy.1
  rw [Nat.zero_mul, Nat.add_zero] at y0
  clear gy hR
  have hz := hE.1
  clear hE
  unfold trV at m1
  unfold relV
  rw [okC_1, hkey]
  have hu : Tryd.prog.cellsOf 31 = 6 := by kernel_rfl
  clear hkey hy
  have key : (releq x f1 = false ∧ (releq x f1 && (okRel x && decide (y.i < x.i))) = false) ∨ (releq x f1 = true ∧ decide (1 ≤ x.i ∧ x.i ≤ 1048578) = false ∧ (releq x f1 && (okRel x && decide (y.i < x.i))) = false) ∨
      (releq x f1 = true ∧ decide (1 ≤ x.i ∧ x.i ≤ 1048578) = true ∧ mayE x.w x.t x.r = 2 ∧ (releq x f1 && (okRel x && decide (y.i < x.i))) = false) ∨
      (releq x f1 = true ∧ decide (1 ≤ x.i ∧ x.i ≤ 1048578) = true ∧ mayE x.w x.t x.r = 231 ∧ (releq x f1 && (okRel x && decide (y.i < x.i))) = false) ∨
      (releq x f1 = true ∧ decide (1 ≤ x.i ∧ x.i ≤ 1048578) = true ∧ mayE x.w x.t x.r = 0 ∧ (releq x f1 && (okRel x && decide (y.i < x.i))) = decide (y.i < x.i)) := by
    cases h1 : releq x f1
    · exact .inl ⟨rfl, rfl⟩
    · rcases okRel_cases x with ⟨h2, h4⟩ | ⟨h2, h3, h4⟩ | ⟨h2, h3, h4⟩ | ⟨h2, h3, h4⟩ <;> simp [*]
  generalize hv : (releq x f1 && (okRel x && decide (y.i < x.i))) = v at key ⊢
  clear hv
  unfold f1 at key
  rcases key with ⟨h1, h4⟩ | ⟨h1, h2, h4⟩ | ⟨h1, h2, h3, h4⟩ | ⟨h1, h2, h3, h4⟩ | ⟨h1, h2, h3, h4⟩
  all_goals
    rw [h4]
    try rw [h1] at q1
    try rw [h2] at i1
    try rw [h3] at m1
    clear h4
    try clear h1
    try clear h2
    try clear h3
    go_enter Tryd.func41, Tryd.ntmps41
    go_wp2_with fail
    obtain ⟨W0, hW0⟩ : ∃ W0, W0 = w.alloc (Obj.cells #[.int .i64 x.i, .bool x.a, .bool x.e, .int .i64 x.w, .int .i64 x.t, .int .i64 x.r] 31) := ⟨_, rfl⟩
    obtain ⟨hb0, hsz, c0, c1, c2, c3, c4, c5⟩ := new6 hW0
    have hz0 : 0 < W0.heap.size := by omega
    have C0 := fun p : Later W0 => p.cell c0 hsz
    have C1 := fun p : Later W0 => p.cell c1 hsz
    have C2 := fun p : Later W0 => p.cell c2 hsz
    have C3 := fun p : Later W0 => p.cell c3 hsz
    have C4 := fun p : Later W0 => p.cell c4 hsz
    have C5 := fun p : Later W0 => p.cell c5 hsz
    have D0 := fun p : Later W0 => p.cell (cell_below' hb0 g0 hz) hz0
    have D1 := fun p : Later W0 => p.cell (cell_below' hb0 g1 hz) hz0
    have D2 := fun p : Later W0 => p.cell (cell_below' hb0 g2 hz) hz0
    have D3 := fun p : Later W0 => p.cell (cell_below' hb0 g3 hz) hz0
    have D4 := fun p : Later W0 => p.cell (cell_below' hb0 g4 hz) hz0
    have D5 := fun p : Later W0 => p.cell (cell_below' hb0 g5 hz) hz0
    have E0 := fun p : Later W0 => p.cell (cell_below' hb0 hp hbp) (by omega)
    have E1 := fun p : Later W0 => p.cell (cell_below' hb0 y0 hby) (by omega)
    rw [← hW0]
    clear hW0 c0 c1 c2 c3 c4 c5 g0 g1 g2 g3 g4 g5
    refine wp_later (by kernel_rfl) (by kernel_rfl) ?_
    repeat (go_big_quiet_step (first
      | (go_at_call 42; exact later_same (i1 _))
      | (go_at_call 12; exact later_below (m1 _))))
    refine wpQuiet_nil ?_
    rintro _ ⟨p, rfl⟩
    have hbp1 := hb0.trans (p.h.mono (Nat.le_of_lt hsz))
    go_wp2_with fail
    go_ret
    exact ⟨rfl, hbp1⟩
set_option maxRecDepth 100000 in
set_option maxHeartbeats 4000000 in
theorem chk1_2 (A : Option Addr) (n c : Nat) (l : List Rel) (x : Rel) (bp : Nat) (w : World) (j : Nat) (y : Rel) (hR : Reads w w.heap.size 6 A n (rels l)) (hn : n ≤ 65536) (hl : j + 2 ≤ n) (hy : l[j + 1]? = some y) (hE : Env w) (hbp : bp < w.heap.size) (hp : w.cell? ⟨bp, 0, none⟩ = some (.slice A n c)) :
    Calls Tryd.prog 41 #[.int .i64 ((j : Int) + 2), relV x, .pointer (some ⟨bp, 0, none⟩)] w fun e w' => e = .returned (.bool (okC l (j + 2) x)) ∧ Below w.heap.size w w' := by
  have i1 := fun w => idx_any x.i w
  have m1 := fun w => may_any x.a x.e x.w x.t x.r w
  have hkey := keyAt_some hy
  obtain ⟨b, off, rfl, hby, gy⟩ := rels_cells hR hy
  have y0 := gy.1
  clear gy hR
  have hz := hE.1
  clear hE
  unfold trV at m1
  unfold relV
  rw [okC_2, hkey]
  have hu : Tryd.prog.cellsOf 31 = 6 := by kernel_rfl
  clear hkey hy
  have key : (decide (1 ≤ x.i ∧ x.i ≤ 1048578) = false ∧ (okRel x && decide (y.i < x.i)) = false) ∨
      (decide (1 ≤ x.i ∧ x.i ≤ 1048578) = true ∧ mayE x.w x.t x.r = 2 ∧ (okRel x && decide (y.i < x.i)) = false) ∨
      (decide (1 ≤ x.i ∧ x.i ≤ 1048578) = true ∧ mayE x.w x.t x.r = 231 ∧ (okRel x && decide (y.i < x.i)) = false) ∨
      (decide (1 ≤ x.i ∧ x.i ≤ 1048578) = true ∧ mayE x.w x.t x.r = 0 ∧ (okRel x && decide (y.i < x.i)) = decide (y.i < x.i)) := by
    rcases okRel_cases x with ⟨h2, h4⟩ | ⟨h2, h3, h4⟩ | ⟨h2, h3, h4⟩ | ⟨h2, h3, h4⟩ <;> simp [*]
  generalize hv : (okRel x && decide (y.i < x.i)) = v at key ⊢
  clear hv
  have hwr : IntKind.i64.wrap ((j : Int) + 2 - 1) = j + 1 := by rw [IntKind.wrap_i64]; omega
  have ht1 : ((j : Int) + 1).toNat = j + 1 := by omega
  have ht2 : (0 : Int) ≤ (j : Int) + 1 := by omega
  have ht3 : (j : Int) + 1 < (n : Int) := by omega
  have ht4 : (2 : Int) ≤ (j : Int) + 2 := by omega
  have ht5 : ((j : Int) + 2 == 0) = false := by simp; omega
  rcases key with ⟨h2, h4⟩ | ⟨h2, h3, h4⟩ | ⟨h2, h3, h4⟩ | ⟨h2, h3, h4⟩
  all_goals
    rw [h4]
    try rw [h1] at q1
    try rw [h2] at i1
    try rw [h3] at m1
    clear h4
    try clear h1
    try clear h2
    try clear h3
    go_enter Tryd.func41, Tryd.ntmps41
    go_wp2_with fail
    obtain ⟨W0, hW0⟩ : ∃ W0, W0 = w.alloc (Obj.cells #[.int .i64 x.i, .bool x.a, .bool x.e, .int .i64 x.w, .int .i64 x.t, .int .i64 x.r] 31) := ⟨_, rfl⟩
    obtain ⟨hb0, hsz, c0, c1, c2, c3, c4, c5⟩ := new6 hW0
    have hz0 : 0 < W0.heap.size := by omega
    have C0 := fun p : Later W0 => p.cell c0 hsz
    have C1 := fun p : Later W0 => p.cell c1 hsz
    have C2 := fun p : Later W0 => p.cell c2 hsz
    have C3 := fun p : Later W0 => p.cell c3 hsz
    have C4 := fun p : Later W0 => p.cell c4 hsz
    have C5 := fun p : Later W0 => p.cell c5 hsz
    have E0 := fun p : Later W0 => p.cell (cell_below' hb0 hp hbp) (by omega)
    have E1 := fun p : Later W0 => p.cell (cell_below' hb0 y0 hby) (by omega)
    rw [← hW0]
    clear hW0 c0 c1 c2 c3 c4 c5
    refine wp_later (by kernel_rfl) (by kernel_rfl) ?_
    repeat (go_big_quiet_step (first
      | (go_at_call 42; exact later_same (i1 _))
      | (go_at_call 12; exact later_below (m1 _))))
    refine wpQuiet_nil ?_
    rintro _ ⟨p, rfl⟩
    have hbp1 := hb0.trans (p.h.mono (Nat.le_of_lt hsz))
    go_wp2_with fail
    go_ret
    exact ⟨rfl, hbp1⟩
end Go.Proofs.YtibjelonabhcmaaDoor
